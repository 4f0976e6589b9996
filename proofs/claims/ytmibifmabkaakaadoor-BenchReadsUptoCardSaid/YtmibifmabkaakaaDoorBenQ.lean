/- The law BenchReads, walked, where what it reads is small. No condition but that and the library's tables. -/
import Derived.Test.YtmibifmabkaakaaDoorBenP
import Derived.Test.YtmibifmabkaakaaDoorBenF
import Derived.Test.YtmibifmabkaakaaDoorAliR
import Derived.Deep.SlicePairs
namespace Go.Proofs.YtmibifmabkaakaaDoor
open Go.ChangeShapes Go.WideShapes Go.ChangeAt Go.RowKit
set_option linter.unusedVariables false

set_option maxRecDepth 20000 in
set_option maxHeartbeats 4000000 in
theorem benchReads_core (room : Int) (A0 : Option Addr) (n0 c0 : Nat) (ys : List Value) (T PS : ByteArray) (pe : Int) (l : List (Int × Int)) (M K E : Nat) (w : World) (hs : Seg w w.heap.size A0 ys) (hm : l.length ≤ 9223372036854775807)
    (h1 : ∀ u, Below w.heap.size w u → Calls Tryd.prog 37 #[.int .i64 room, .slice A0 n0 c0] u fun e w' => e = .returned (.tuple #[.string PS, .int .i64 pe]) ∧ Below u.heap.size u w')
    (h2 : ∀ u, Below w.heap.size w u → Calls Tryd.prog 38 #[.int .i64 room, .slice A0 n0 c0] u fun e w' => e = .returned (.tuple #[.string PS, .int .i64 pe]) ∧ Below u.heap.size u w')
    (h3 : ∀ u, Below w.heap.size w u → Calls Tryd.prog 39 #[.string T] u fun e w' => ∃ A c, e = .returned (.tuple #[.int .i64 (M : Nat), .slice A l.length c, .int .i64 (K : Nat), .int .i64 (E : Nat)]) ∧ Seg w' w'.heap.size A (flat l) ∧ Below u.heap.size u w')
    (h4 : ∀ u, Below w.heap.size w u → Calls Tryd.prog 40 #[.string T] u fun e w' => ∃ A c, e = .returned (.tuple #[.int .i64 (M : Nat), .slice A l.length c, .int .i64 (K : Nat), .int .i64 (E : Nat)]) ∧ Seg w' w'.heap.size A (flat l) ∧ Below u.heap.size u w') :
    Calls Tryd.prog 9 #[.int .i64 room, .slice A0 n0 c0, .string T] w fun e w' => e = .returned (.bool true) ∧ Below w.heap.size w w' := by
  obtain ⟨n, hn⟩ : ∃ n, n = l.length := ⟨_, rfl⟩
  have H1 := Lib.hid h1
  have H2 := Lib.hid h2
  rw [← hn] at h3 h4
  have H3 := Lib.hid h3
  have H4 := Lib.hid h4
  have HEQ : Hid (∀ (u : World) (A C : Option Addr) (cc d : Nat), Seg u u.heap.size A (flat l) → Seg u u.heap.size C (flat l) → Calls Tryd.prog 41 #[.slice A n cc, .slice C n d] u fun e w' => e = .returned (.bool true) ∧ ∃ n, w' = u.drewN n) := fun u A C cc d hs ht => by
    have h := eq_crs l l A C cc d u.heap.size u hs ht hm
    rw [decide_eq_true rfl, ← hn] at h
    exact h
  have b0 : (pe == pe) = true := by simp
  have b1 : ((E : Int) == (E : Int)) = true := by simp
  have b2 : ((M : Int) == (M : Int)) = true := by simp
  have b3 : ((K : Int) == (K : Int)) = true := by simp
  have b4 : (PS.toList == PS.toList) = true := by simp
  clear h1 h2 h3 h4 hs hm hn
  go_enter Tryd.func9, Tryd.ntmps9
  go_wp2_with fail
  refine (H1.out _ (Below.refl _ _)).mono ?_
  rintro e w1 ⟨rfl, hb1⟩
  have HB1 := Lib.hid hb1
  clear hb1
  go_wp2_with fail
  refine (H2.out _ HB1.out).mono ?_
  rintro e w2 ⟨rfl, hb2⟩
  have HB2 : Hid (Below w.heap.size w w2) := HB1.out.trans (hb2.mono HB1.out.size)
  clear hb2
  go_wp2_with fail
  refine (H3.out _ HB2.out).mono ?_
  rintro e w3 ⟨A3, c3, rfl, hs3, hb3⟩
  have HS3 := Lib.hid hs3
  have HB3 : Hid (Below w.heap.size w w3) := HB2.out.trans (hb3.mono HB2.out.size)
  clear hs3 hb3
  go_wp2_with fail
  refine (H4.out _ HB3.out).mono ?_
  rintro e w4 ⟨A4, c4, rfl, hs4, hb4⟩
  have HS4 := Lib.hid hs4
  have HS5 := Lib.hid ((HS3.out.below hb4).more hb4.size)
  have HB4 : Hid (Below w.heap.size w w4) := HB3.out.trans (hb4.mono HB3.out.size)
  clear hs4 hb4
  go_wp2_with fail
  refine (HEQ.out _ _ _ _ _ HS5.out HS4.out).mono ?_
  rintro e w5 ⟨rfl, m3, rfl⟩
  go_wp2_with fail
  go_ret
  exact ⟨rfl, below_drewN HB4.out _⟩

/-! ### a list of pairs that comes in -/
abbrev CoV (x : Option Addr × List (Int × Int) × Nat) : Value := .slice x.1 x.2.1.length x.2.2
theorem bulk_pos {H : Type} (d : DataW H) : 1 ≤ Rows.uptoBulk d := by
  cases d with
  | lit l => cases l <;> simp [Rows.uptoBulk]
  | _ => simp [Rows.uptoBulk]
theorem bulk_len {H : Type} : ∀ ds : List (DataW H), ds.length ≤ Rows.uptoBulkAll ds
  | [] => Nat.zero_le _
  | d :: ds => by
    have := bulk_pos d
    have := bulk_len ds
    simp only [List.length_cons, Rows.uptoBulkAll]
    omega
def CoOk {H : Type} (W : World) (d : DataW H) (x : Option Addr × List (Int × Int) × Nat) : Prop := Seg W W.heap.size x.1 (flat x.2.1) ∧ x.2.1.length ≤ Rows.uptoBulk d ∧ Wide x.2.1
def iw : Value → Int
  | .int _ n => n
  | _ => 0
set_option maxRecDepth 100000 in
theorem open_cos {H : Type} {enc : TypeId × Value → H} {W : World} {v : Value} {d : DataW H} {ps : List MemPlace} {r : Reach} {b0 : Nat}
    (h : DataW.Trod enc Tryd.prog W 0 (fun _ => true) true 74 v d ps) (hv : Value.okWide Tryd.prog W r b0 74 v) :
    ∃ x, v = CoV x ∧ CoOk W d x := by
  obtain ⟨fuel, hf⟩ := h
  obtain ⟨a, len, cap, rfl⟩ := okWide_slice Tryd.underlying74 hv
  rcases Deep.open_slice_pairs Tryd.underlying74 Tryd.underlying81 (by kernel_rfl) rfl rfl (by kernel_rfl) (by kernel_rfl) hf with ⟨hcs, _⟩ | ⟨x, l, c, m, n, V0, V1, D0, D1, P0, P1, hcs, _, hl, hm, hmm, hx, hcell⟩
  · simp [Value.cells] at hcs
    obtain ⟨rfl, rfl, rfl⟩ := hcs
    exact ⟨(none, [], 0), rfl, Seg.nil, by simp, fun k hk => by simp at hk⟩
  · simp [Value.cells] at hcs
    obtain ⟨rfl, rfl, rfl⟩ := hcs
    have hmc : m = cap := by rw [hmm]; rfl
    have hc2 : ∀ i, i < len → W.cell? (x.add (i * 2)) = some (.int .i64 (iw (V0 i))) ∧ W.cell? (x.add (i * 2 + 1)) = some (.int .i64 (iw (V1 i))) ∧ (Lit.int .i64 (iw (V0 i))).wf = true ∧ (Lit.int .i64 (iw (V1 i))).wf = true := by
      intro i hi
      obtain ⟨h1, h2, h3, h4⟩ := hcell i (by omega)
      obtain ⟨n0, e0, _, f0⟩ := DataW.trod_int Tryd.underlying3 h3
      obtain ⟨n1, e1, _, f1⟩ := DataW.trod_int Tryd.underlying3 h4
      simp at e0 e1
      rw [e0] at h1
      rw [e1] at h2
      rw [h1, h2, e0, e1]
      exact ⟨rfl, rfl, f0, f1⟩
    refine ⟨(some x, ptab (fun i => iw (V0 i)) (fun i => iw (V1 i)) len, cap), by simp [CoV, ptab_len], fun h0 => ?_, ?_, fun k hk => ?_⟩
    · rw [flat_len, ptab_len] at h0
      have hb : x.block < W.heap.size := by
        have h1 := (hc2 0 (by omega)).1
        have e : x.add (0 * 2) = x := rfl
        rw [e] at h1
        exact block_lt h1
      refine ⟨x, rfl, hb, fun i u hu => ?_⟩
      have hi : i < (flat (ptab (fun i => iw (V0 i)) (fun i => iw (V1 i)) len)).length := (List.getElem?_eq_some_iff.1 hu).1
      rw [flat_len, ptab_len] at hi
      have hk : i / 2 < len := by omega
      obtain ⟨h1, h2⟩ := flat_at (ptab (fun i => iw (V0 i)) (fun i => iw (V1 i)) len) (i / 2) (by rw [ptab_len]; exact hk)
      rw [prat_ptab hk] at h1 h2
      obtain ⟨h3, h4, _⟩ := hc2 (i / 2) hk
      rcases (by omega : i = i / 2 * 2 ∨ i = i / 2 * 2 + 1) with e | e
      · rw [← e] at h1 h3
        rw [h3, ← h1]; exact hu
      · rw [← e] at h2 h4
        rw [h4, ← h2]; exact hu
    · injection hx with hx _
      subst hx
      have := bulk_len ((List.range len).map fun i => (DataW.agg [D0 i, D1 i] : DataW H))
      simp only [List.length_map, List.length_range] at this
      simp only [ptab_len, Rows.uptoBulk]
      omega
    · rw [ptab_len] at hk
      obtain ⟨_, _, f0, f1⟩ := hc2 k hk
      rw [prat_ptab hk]
      simp [Lit.wf, IntKind.min, IntKind.max, IntKind.bits, IntKind.signed] at f0 f1
      omega
end Go.Proofs.YtmibifmabkaakaaDoor
namespace Go.Proofs.YtmibifmabkaakaaDoor.lawBenchReads
open Go.ChangeShapes Go.WideShapes Go.ChangeAt Go.RowKit
theorem BenchReads_walk {H : Type} {d1 : DataW H} (a0 : Int) (x1 : Option Addr × List (Int × Int) × Nat) (s : ByteArray) (W : World) (w0 : (Lit.int .i64 a0).wf = true) (s1 : CoOk W d1 x1)
    (hk : Rows.uptoSmall H ([.lit (.int .i64 a0), d1, .lit (.string s.data.toList)] ++ []) = true) (hL : LibW W) :
    Calls Tryd.prog 9 #[.int .i64 a0, CoV x1, .string s] W fun e w' => e = .returned (.bool true) ∧ Below W.heap.size W w' := by
  have h := of_decide_eq_true hk
  simp only [List.append_nil, Rows.uptoBulkAll, Rows.uptoBulk] at h
  have e : s.data.toList.length = s.size := by rw [Array.length_toList]; rfl
  obtain ⟨A, l, c⟩ := x1
  obtain ⟨k1, k2, k3⟩ := s1
  simp only at k1 k2 k3
  have hr : -9223372036854775808 ≤ a0 ∧ a0 ≤ 9223372036854775807 := by
    simp [Lit.wf, IntKind.min, IntKind.max, IntKind.bits, IntKind.signed] at w0
    omega
  have e3 : Value.string s = SV s.data.toList := sv_of s
  have hp := parse_ok (t := s.data.toList) (room := (parseR s.data.toList).1) (l := (parseR s.data.toList).2.1) (k := (parseR s.data.toList).2.2.1) (c := (parseR s.data.toList).2.2.2) rfl
  refine benchReads_core a0 A l.length c (flat l) s ⟨(printR a0 l).1.toArray⟩ (printR a0 l).2 (cp (parseR s.data.toList).2.1) (parseR s.data.toList).1 (parseR s.data.toList).2.2.1 (parseR s.data.toList).2.2.2 W k1 (by rw [cp_len]; omega) (fun u hu => ?_) (fun u hu => ?_) (fun u hu => ?_) (fun u hu => ?_)
  · exact print_any a0 l A c u ((k1.below hu).more hu.size) (by omega) hr k3 (hL.below hu)
  · exact zprint_any a0 l A c u ((k1.below hu).more hu.size) (by omega) hr k3 (hL.below hu)
  · rw [e3, cp_len]
    exact (parse_any s.data.toList (by omega) u (hL.below hu)).mono fun e w' ⟨A, c, h1, h2, h3, h4⟩ => ⟨A, c, h1, h3, h4⟩
  · rw [e3, cp_len]
    exact (zparse_any s.data.toList (by omega) u).mono fun e w' ⟨A, c, h1, h2, h3, h4⟩ => ⟨A, c, h1, h3, h4⟩
end Go.Proofs.YtmibifmabkaakaaDoor.lawBenchReads
