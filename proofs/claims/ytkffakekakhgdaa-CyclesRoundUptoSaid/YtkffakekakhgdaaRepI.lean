/- slices.Repeat at []int, of one number; math/bits.Mul. No condition but the bounds. -/
import Derived.Test.YtkffakekakhgdaaNatB
import Derived.Test.YtkffakekakhgdaaBase2
import Derived.Laws.CopyOwn
import Derived.IntWalk
namespace Go.Proofs.Ytkffakekakhgdaa
open Go.ChangeShapes Go.WideShapes Go.ChangeAt Go.RowKit
set_option linter.unusedVariables false

set_option maxRecDepth 20000 in
set_option maxHeartbeats 1000000 in
theorem bmul_any (x y : Nat) (hx : x < 4294967296) (hy : y < 4294967296) (w : World) :
    Calls Try.prog 88 #[.int .u64 x, .int .u64 y] w fun e w' => e = .returned (.tuple #[.int .u64 0, .int .u64 (x * y : Nat)]) ∧ w = w' := by
  go_enter Try.func88, Try.ntmps88
  go_wp2_with fail
  refine (mul64_any x y (by omega) (by omega) w).mono ?_
  rintro e w1 ⟨rfl, rfl⟩
  have hxy : x * y < 18446744073709551616 := Nat.lt_of_lt_of_le (Nat.mul_lt_mul_of_lt_of_lt hx hy) (by decide)
  have e1 : x * y / 18446744073709551616 = 0 := Nat.div_eq_of_lt hxy
  have e2 : x * y % 18446744073709551616 = x * y := Nat.mod_eq_of_lt hxy
  rw [e1, e2]
  clear e1 e2 hxy hx hy
  go_wp2_with fail
  go_ret2
  exact ⟨rfl, rfl⟩
theorem splice_rep (n m N : Nat) (v z : Value) (h : n + m ≤ N) : splice (List.replicate n v ++ List.replicate (N - n) z) n (List.replicate m v) = List.replicate (n + m) v ++ List.replicate (N - (n + m)) z := by
  unfold splice
  have h1 : (List.replicate n v).length = n := List.length_replicate
  have e : (List.replicate n v ++ List.replicate (N - n) z).take n = List.replicate n v := by
    conv => lhs; arg 1; rw [← h1]
    rw [List.take_left]
  rw [e, List.length_replicate, ← List.drop_drop]
  have e2 : (List.replicate n v ++ List.replicate (N - n) z).drop n = List.replicate (N - n) z := by
    conv => lhs; arg 1; rw [← h1]
    rw [List.drop_left]
  rw [e2, List.drop_replicate, ← List.append_assoc, List.replicate_append_replicate, show N - n - m = N - (n + m) by omega]
theorem rep_one (n : Nat) (x : Int) : ∀ u ∈ List.replicate n (Value.int .i64 x), u.oneCell' = true := fun u hu => by rw [List.eq_of_mem_replicate hu]; rfl
theorem rep_cells {w : World} {g n N : Nat} {v z : Value} {t : TypeId} (h : w.heap[g]? = some (.cells (List.replicate n v ++ List.replicate (N - n) z).toArray t (0, 0))) (m : Nat) (hm : m ≤ n) : ∀ j u, (List.replicate m v)[j]? = some u → w.cell? ((⟨g, 0, none⟩ : Addr).add j) = some u := by
  intro j u hu
  have hj : j < m := by have := (List.getElem?_eq_some_iff.1 hu).1; simpa using this
  rw [Addr.add_lit, Nat.zero_add, cell_of_row w g j _ t (0, 0) h, List.getElem?_toArray, List.getElem?_append_left (by simp; omega)]
  simp [hj] at hu
  simp [show j < n by omega, hu]
theorem rep1_cell {w : World} {ad : Addr} {v : Value} (h : w.cell? ad = some v) (o : Obj) : ∀ j u, (List.replicate 1 v)[j]? = some u → (w.alloc o).cell? (ad.add j) = some u := by
  intro j u hv
  have hj : j < 1 := by have := (List.getElem?_eq_some_iff.1 hv).1; simpa using this
  obtain rfl : j = 0 := by omega
  simp at hv
  subst hv
  exact (World.cell?_alloc_lt w _ _ (block_lt h)).trans h
/-- What Repeat leaves. -/
def RepOut (base : Nat) (x : Int) (N : Nat) (w : World) (e : Ending) (w' : World) : Prop :=
  ∃ g, e = .returned (.slice (some ⟨g, 0, none⟩) N N) ∧ base ≤ g ∧ w'.heap[g]? = some (.cells (List.replicate N (Value.int .i64 x)).toArray 3 (0, 0)) ∧ Below w.heap.size w w'
set_option maxRecDepth 20000 in
set_option maxHeartbeats 2000000 in
theorem repeat_pos (ad : Addr) (c N : Nat) (x : Int) (w : World) (hc : w.cell? ad = some (.int .i64 x)) (h0 : 0 < N) (hN : N ≤ 1000) :
    Calls Try.prog 57 #[.slice (some ad) 1 c, .int .i64 N] w (RepOut w.heap.size x N w) := by
  have HC := Lib.hid hc
  have HN := Lib.hid (And.intro h0 hN)
  have b1 : decide ((N : Int) < 0) = false := decide_eq_false (by omega)
  have b2 : decide (9223372036854775807 < (N : Int)) = false := decide_eq_false (by omega)
  have b3 : decide (9223372036854775807 < N) = false := decide_eq_false (by omega)
  have hmk := run_make_row' (P := Try.prog) 36 3 (.int .i64 0) 8 Try.underlying36 (by kernel_rfl) rfl .i64 .i64 N (by omega) (by omega)
  have l1 : (N : Int) ≤ 1000 := by omega
  clear hc
  go_enter Try.func57, Try.ntmps57
  go_wp2_with fail
  have hmul := bmul_any 1 N (by omega) (by have := HN.out; omega) w
  rw [Nat.one_mul] at hmul
  refine hmul.mono ?_
  rintro e w1 ⟨rfl, rfl⟩
  clear hmul
  have HR : Hid ((w.alloc (.cells (madeCells #[.int .i64 0] N) 3)).heap[w.heap.size]? = some (.cells (List.replicate 0 (Value.int .i64 x) ++ List.replicate (N - 0) (Value.int .i64 0)).toArray 3 (0, 0))) := by
    unfold Hid
    rw [show (List.replicate 0 (Value.int .i64 x) ++ List.replicate (N - 0) (Value.int .i64 0)).toArray = madeCells #[.int .i64 0] N by
      apply Array.ext'
      apply List.ext_getElem?
      intro j
      simp [madeCells, List.getElem?_replicate, List.getElem?_map, Nat.mod_one]
      by_cases hj : j < N <;> simp [hj]]
    exact heap_alloc_new w _
  have hsz : (Try.prog.info? 3).map (·.size) = some 1 := by kernel_rfl
  have HZ := Lib.hid hsz
  have HBm : Hid (Below w.heap.size w (w.alloc (.cells (madeCells #[.int .i64 0] N) 3))) := (Below.refl _ _).alloc (Nat.le_refl _) _
  have HPC : Hid (∀ j v, (List.replicate 1 (Value.int .i64 x))[j]? = some v → (w.alloc (.cells (madeCells #[.int .i64 0] N) 3)).cell? (ad.add j) = some v) := rep1_cell HC.out _
  have HL1 : Hid ((List.replicate 1 (Value.int .i64 x)).length = Nat.min 1 N) := by have := HN.out; unfold Hid; rw [List.length_replicate]; simp only [Nat.min_def]; split <;> omega
  have HF1 : Hid (0 + (List.replicate 1 (Value.int .i64 x)).length ≤ (List.replicate 0 (Value.int .i64 x) ++ List.replicate (N - 0) (Value.int .i64 0)).length) := by have := HN.out; unfold Hid; simp; omega
  clear hsz
  go_wp2_with (refine wpList_copy_splice rfl (.tmp 31) (.tmp 32) 36 36 rfl 3 Try.underlying36 HZ.out (some ⟨w.heap.size, 0, none⟩) (some ad) N N 1 c rfl rfl w.heap.size 0 (List.replicate 0 (Value.int .i64 x) ++ List.replicate (N - 0) (Value.int .i64 0)) 3 HR.out (List.replicate 1 (Value.int .i64 x)) HL1.out (fun _ => ⟨rfl, ad, rfl, HPC.out⟩) HF1.out (rep_one 1 x) w.heap.size w HBm.out (Nat.le_refl _) ?_; intro w2 hg2 hb2; have HB2 := Lib.hid hb2; clear hb2)
  rw [splice_rep 0 1 N _ _ (by have := HN.out; omega)] at hg2
  clear hmk b1 b2 b3
  go_loopw [8] (fun s8 wx => ∃ n : Nat, 1 ≤ n ∧ n ≤ N ∧ s8 = .int .i64 n ∧ Hid (wx.heap[w.heap.size]? = some (.cells (List.replicate n (Value.int .i64 x) ++ List.replicate (N - n) (Value.int .i64 0)).toArray 3 (0, 0))) ∧ Hid (Below w.heap.size w wx)) (fun s8 _ => N - (intOf s8).toNat)
  case atStart => exact ⟨1, Nat.le_refl _, by have := HN.out; omega, rfl, hg2, HB2.out⟩
  case round =>
    obtain ⟨n, hn1, hn, rfl, hg, hb⟩ := hrel
    by_cases hlt : n < N
    · have i1 : (n : Int) < (N : Int) := by omega
      have i2 : (n : Int) ≤ (N : Int) := by omega
      obtain ⟨m, hm⟩ : ∃ m, m = Nat.min n (N - n) := ⟨_, rfl⟩
      have hm1 : 1 ≤ m ∧ m ≤ n ∧ n + m ≤ N := by rw [hm]; simp only [Nat.min_def]; split <;> omega
      have HM1 := Lib.hid hm1
      have m1 : IntKind.i64.wrap ((n : Int) + (m : Int)) = ((n + m : Nat) : Int) := by rw [show (n : Int) + (m : Int) = ((n + m : Nat) : Int) by omega]; exact IntWalk.i64_in _ (by have := HN.out; omega)
      have hnc : ¬ (N = n) := by omega
      have hnn : n ≤ N := hn
      have HLm : Hid ((List.replicate m (Value.int .i64 x)).length = Nat.min n (N - n)) := by unfold Hid; rw [List.length_replicate, hm]
      have HPm : Hid (∀ j v, (List.replicate m (Value.int .i64 x))[j]? = some v → wr.drew.cell? ((⟨w.heap.size, 0, none⟩ : Addr).add j) = some v) := rep_cells (w := wr.drew) hg.out m hm1.2.1
      have HFm : Hid (n + (List.replicate m (Value.int .i64 x)).length ≤ (List.replicate n (Value.int .i64 x) ++ List.replicate (N - n) (Value.int .i64 0)).length) := by unfold Hid; rw [List.length_append, List.length_replicate, List.length_replicate, List.length_replicate]; omega
      have HK := Lib.hid (And.intro hn1 (And.intro hn hlt))
      have hgl : goInt (List.replicate m (Value.int .i64 x)).length = .int .i64 m := by rw [List.length_replicate]; rfl
      have HGL := Lib.hid hgl
      have HGD : Hid (wr.drew.heap[w.heap.size]? = some (.cells (List.replicate n (Value.int .i64 x) ++ List.replicate (N - n) (Value.int .i64 0)).toArray 3 (0, 0))) := hg
      clear hm hm1 hgl hn1 hn hlt hg2
      go_wp2_with fail
      go_region_law (refine step_copy_splice rfl (.tmp 41) (.tmp 44) 36 36 rfl 3 Try.underlying36 HZ.out (some ⟨w.heap.size, n, none⟩) (some ⟨w.heap.size, 0, none⟩) (N - n) (N - n) n N (by simp [Act.eval, Act.put]) (by simp [Act.eval, Act.put]) w.heap.size n (List.replicate n (Value.int .i64 x) ++ List.replicate (N - n) (Value.int .i64 0)) 3 HGD.out (List.replicate m (Value.int .i64 x)) HLm.out (fun _ => ⟨rfl, _, rfl, HPm.out⟩) HFm.out (rep_one m x) w.heap.size w hb.out.drew (Nat.le_refl _) ?_; intro w3 hg3 hb3; rw [HGL.out])
      have hg4 : Hid (w3.heap[w.heap.size]? = some (.cells (List.replicate (n + m) (Value.int .i64 x) ++ List.replicate (N - (n + m)) (Value.int .i64 0)).toArray 3 (0, 0))) := by
        have h := hg3.out
        rw [splice_rep n m N _ _ HM1.out.2.2] at h
        exact h
      have HB3 := Lib.hid hb3
      clear hb3 hg3 m1
      go_roundw
      case rel => (repeat apply Exists.intro); exact ⟨⟨n + m, by have := HM1.out; omega, HM1.out.2.2, rfl, hg4, HB3⟩, rfl⟩
      case measure => show N - (intOf (.int .i64 ((n + m : Nat) : Int))).toNat < N - (intOf (.int .i64 (n : Int))).toNat; have := HM1.out; simp [intOf]; omega
    · obtain rfl : n = N := by omega
      go_wp2_with fail
      go_ret
      refine ⟨_, rfl, Nat.le_refl _, ?_, hb.out⟩
      have := hg.out
      rw [Nat.sub_self, List.replicate_zero, List.append_nil] at this
      exact this
end Go.Proofs.Ytkffakekakhgdaa
