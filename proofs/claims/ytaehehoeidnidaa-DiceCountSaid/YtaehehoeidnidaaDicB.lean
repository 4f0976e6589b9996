/- Package dice: Sum, walked. No condition but the lists' own lengths. -/
import Derived.Test.YtaehehoeidnidaaDicA
namespace Go.Proofs.Ytaehehoeidnidaa
open Go.ChangeShapes Go.WideShapes Go.ChangeAt Go.RowKit
set_option linter.unusedVariables false

theorem ieq0 {n : Nat} (h : n = 0) : ((n : Int) == 0) = true := by subst h; rfl
theorem neq0 {n : Nat} (h : n = 0) : (n == 0) = true := by subst h; rfl
theorem ine0 {n : Nat} (h : ¬ n = 0) : ((n : Int) == 0) = false := by simp; omega
theorem nne0 {n : Nat} (h : ¬ n = 0) : (n == 0) = false := by simp; omega
def sumL (a b : List Int) : List Int := (List.range (a.length + b.length - 1)).map (dsum a b)
theorem sumL_len (a b : List Int) : (sumL a b).length = a.length + b.length - 1 := by simp [sumL]
theorem sumL_at (a b : List Int) {k : Nat} (h : k < a.length + b.length - 1) : dk (sumL a b) k = dsum a b k := by unfold dk sumL; simp [List.getD, h]
noncomputable def sumR (a b : List Int) : List Int × Int := if dokB a = false ∨ dokB b = false then ([], 1) else if a.length = 0 ∨ b.length = 0 then ([], 0) else if dokB (sumL a b) = false then ([], 4) else (sumL a b, 0)
set_option maxRecDepth 20000 in
set_option maxHeartbeats 2000000 in
theorem sum_no (A B : Option Addr) (a b : List Int) (c d : Nat) (w : World) (hs : Seg w w.heap.size A (a.map (.int .i64))) (hm : a.length ≤ 9223372036854775807) (ht : Seg w w.heap.size B (b.map (.int .i64))) (hn : b.length ≤ 9223372036854775807) (hq : ¬ DOk a ∨ (DOk a ∧ ¬ DOk b) ∨ (DOk a ∧ DOk b ∧ a.length = 0) ∨ (DOk a ∧ DOk b ∧ ¬ a.length = 0 ∧ b.length = 0)) :
    Calls Try.prog 71 #[.slice A a.length c, .slice B b.length d] w (DOut (sumR a b) w) := by
  have HS := Lib.hid hs
  have HM := Lib.hid hm
  have HT := Lib.hid ht
  have HN := Lib.hid hn
  clear hs hm ht hn
  rcases hq with h | ⟨h, h'⟩ | ⟨h, h', h0⟩ | ⟨h, h', h1, h0⟩
  · have HQ := Lib.hid (dokF h)
    have HF : Hid (sumR a b = ([], 1)) := by unfold Hid sumR; rw [if_pos (.inl (dokF h))]
    clear h
    go_enter Try.func71, Try.ntmps71
    go_wp2_with fail
    refine (dright_any A a c _ HS.out HM.out).mono ?_
    rintro e w1 ⟨rfl, rfl⟩
    rw [HQ.out]
    go_wp2_with fail
    go_ret2
    exact ⟨_, by rw [HF.out]; rfl, by rw [HF.out]; exact isSlice_nil w, Below.refl _ _⟩
  · have HQ := Lib.hid (dokT h)
    have HQ2 := Lib.hid (dokF h')
    have HF : Hid (sumR a b = ([], 1)) := by unfold Hid sumR; rw [if_pos (.inr (dokF h'))]
    clear h h'
    go_enter Try.func71, Try.ntmps71
    go_wp2_with fail
    refine (dright_any A a c _ HS.out HM.out).mono ?_
    rintro e w1 ⟨rfl, rfl⟩
    rw [HQ.out]
    go_wp2_with fail
    refine (dright_any B b d _ HT.out HN.out).mono ?_
    rintro e w1 ⟨rfl, rfl⟩
    rw [HQ2.out]
    go_wp2_with fail
    go_ret2
    exact ⟨_, by rw [HF.out]; rfl, by rw [HF.out]; exact isSlice_nil w, Below.refl _ _⟩
  · have HQ := Lib.hid (dokT h)
    have HQ2 := Lib.hid (dokT h')
    have HF : Hid (sumR a b = ([], 0)) := by unfold Hid sumR; rw [if_neg (by rw [dokT h, dokT h']; simp), if_pos (.inl h0)]
    have b1 : ((a.length : Int) == 0) = true := ieq0 h0
    have b2 : (a.length == 0) = true := neq0 h0
    clear h h' h0
    go_enter Try.func71, Try.ntmps71
    go_wp2_with fail
    refine (dright_any A a c _ HS.out HM.out).mono ?_
    rintro e w1 ⟨rfl, rfl⟩
    rw [HQ.out]
    go_wp2_with fail
    refine (dright_any B b d _ HT.out HN.out).mono ?_
    rintro e w1 ⟨rfl, rfl⟩
    rw [HQ2.out]
    go_wp2_with fail
    go_ret2
    exact ⟨_, by rw [HF.out]; rfl, by rw [HF.out]; exact isSlice_nil w, Below.refl _ _⟩
  · have HQ := Lib.hid (dokT h)
    have HQ2 := Lib.hid (dokT h')
    have HF : Hid (sumR a b = ([], 0)) := by unfold Hid sumR; rw [if_neg (by rw [dokT h, dokT h']; simp), if_pos (.inr h0)]
    have b1 : ((a.length : Int) == 0) = false := ine0 h1
    have b2 : (a.length == 0) = false := nne0 h1
    have b3 : ((b.length : Int) == 0) = true := ieq0 h0
    have b4 : (b.length == 0) = true := neq0 h0
    clear h h' h0 h1
    go_enter Try.func71, Try.ntmps71
    go_wp2_with fail
    refine (dright_any A a c _ HS.out HM.out).mono ?_
    rintro e w1 ⟨rfl, rfl⟩
    rw [HQ.out]
    go_wp2_with fail
    refine (dright_any B b d _ HT.out HN.out).mono ?_
    rintro e w1 ⟨rfl, rfl⟩
    rw [HQ2.out]
    go_wp2_with fail
    go_ret2
    exact ⟨_, by rw [HF.out]; rfl, by rw [HF.out]; exact isSlice_nil w, Below.refl _ _⟩
set_option maxRecDepth 20000 in
set_option maxHeartbeats 4000000 in
theorem sum_yes (A B : Option Addr) (a b : List Int) (c d : Nat) (w : World) (hs : Seg w w.heap.size A (a.map (.int .i64))) (hm : a.length ≤ 9223372036854775807) (ht : Seg w w.heap.size B (b.map (.int .i64))) (hn : b.length ≤ 9223372036854775807) (hq : DOk a) (hq2 : DOk b) (h0 : ¬ a.length = 0) (h1 : ¬ b.length = 0) :
    Calls Try.prog 71 #[.slice A a.length c, .slice B b.length d] w (DOut (sumR a b) w) := by
  have HS := Lib.hid hs
  have HM := Lib.hid hm
  have HT := Lib.hid ht
  have HN := Lib.hid hn
  clear hs hm ht hn
  have HQ := Lib.hid (dokT hq)
  have HQ2 := Lib.hid (dokT hq2)
  have HOK := Lib.hid hq
  have HOK2 := Lib.hid hq2
  have HF : Hid (sumR a b = if dokB (sumL a b) = false then ([], 4) else (sumL a b, 0)) := by unfold Hid sumR; rw [if_neg (by rw [dokT hq, dokT hq2]; simp), if_neg (by omega)]
  have b1 : ((a.length : Int) == 0) = false := ine0 h0
  have b2 : (a.length == 0) = false := nne0 h0
  have b3 : ((b.length : Int) == 0) = false := ine0 h1
  have b4 : (b.length == 0) = false := nne0 h1
  have HLn : Hid (1 ≤ a.length ∧ a.length ≤ 200 ∧ 1 ≤ b.length ∧ b.length ≤ 200) := by have := hq.len; have := hq2.len; unfold Hid; omega
  clear hq hq2 h0 h1
  obtain ⟨N, hN⟩ : ∃ N, N = a.length + b.length - 1 := ⟨_, rfl⟩
  have hNi : (N : Int) = (a.length : Int) + (b.length : Int) - 1 := by have := HLn.out; omega
  have HLL : Hid ((sumL a b).length = N) := by unfold Hid; rw [sumL_len, hN]
  have HNb : Hid (N ≤ 400) := by have := HLn.out; unfold Hid; omega
  have HNN : Hid (∀ i j, i < a.length → j < b.length → i + j < N) := fun i j h1 h2 => by omega
  have HAt : Hid (∀ i, i < N → (Value.int .i64 (acc (hSum i) a b a.length 0)) = .int .i64 (dk (sumL a b) i)) := fun i hi => by
    rw [sumL_at a b (by omega)]; unfold acc dsum; simp [racc]
  have hmk := run_make_row' (P := Try.prog) 41 3 (.int .i64 0) 8 Try.underlying41 (by kernel_rfl) rfl .i64 .i64 N (by have := HNb.out; omega) (by have := HNb.out; omega)
  rw [hNi] at hmk
  have R0 := Lib.hid (World.rowIs_made w (.int .i64 0) N 3)
  have HNi := Lib.hid hNi
  have l1 : (a.length : Int) ≤ 200 := by have := HLn.out; omega
  have l2 : (b.length : Int) ≤ 200 := by have := HLn.out; omega
  clear hN hNi
  go_enter Try.func71, Try.ntmps71
  go_wp2_with fail
  refine (dright_any A a c _ HS.out HM.out).mono ?_
  rintro e w1 ⟨rfl, rfl⟩
  rw [HQ.out]
  go_wp2_with fail
  refine (dright_any B b d _ HT.out HN.out).mono ?_
  rintro e w1 ⟨rfl, rfl⟩
  rw [HQ2.out]
  go_wp2_with fail
  clear hmk b1 b2 b3 b4
  go_loopw [36] (fun s36 wr => ∃ i : Nat, i ≤ a.length ∧ s36 = .int .i64 i ∧ Hid (wr.rowIs w.heap.size 3 N (fun k => .int .i64 (acc (hSum k) a b i 0))) ∧ Hid (Below w.heap.size w wr)) (fun s36 _ => a.length - (intOf s36).toNat)
  case atStart => exact ⟨0, Nat.zero_le _, rfl, R0.out, (Below.refl _ _).alloc (Nat.le_refl _) _⟩
  case round =>
    obtain ⟨i, hi, rfl, hrow, hb⟩ := hrel
    by_cases hli : i < a.length
    · have i0 : (i : Int) < (a.length : Int) := by omega
      obtain ⟨ad, rfl, _, c0⟩ := HS.out.dk hli
      have d0 := (hb.out.cell (block_lt c0)).trans c0
      have HI := Lib.hid (And.intro hi hli)
      obtain ⟨x, hx⟩ : ∃ x, x = dk a i := ⟨_, rfl⟩
      rw [← hx] at d0
      have HX := Lib.hid hx
      have ui : Hid (wrap64 ((i : Int) + 1) = ((i + 1 : Nat) : Int)) := by have := HM.out; exact dk64 (by omega)
      clear hi hli hx c0
      obtain ⟨wo, rfl⟩ : ∃ wo : World, wo = wr := ⟨_, rfl⟩
      go_wp2_with fail
      go_loopw [43] (fun s43 wr => ∃ j : Nat, j ≤ b.length ∧ s43 = .int .i64 j ∧ Hid (wr.rowIs w.heap.size 3 N (fun k => .int .i64 (acc (hSum k) a b i j))) ∧ Hid (Below w.heap.size w wr)) (fun s43 _ => b.length - (intOf s43).toNat)
      case atStart => exact ⟨0, Nat.zero_le _, rfl, hrow, hb⟩
      case round =>
        obtain ⟨j, hk, rfl, hrow2, hb2⟩ := hrel
        by_cases hlt : j < b.length
        · have i1 : (j : Int) < (b.length : Int) := by omega
          obtain ⟨ae, rfl, _, c1⟩ := HT.out.dk hlt
          have d1 := (hb2.out.cell (block_lt c1)).trans c1
          have HK := Lib.hid (And.intro hk hlt)
          have uk : Hid (wrap64 ((j : Int) + 1) = ((j + 1 : Nat) : Int)) := by have := HN.out; exact dk64 (by omega)
          have hKN := HNN.out i j HI.out.2 hlt
          obtain ⟨K, hK⟩ : ∃ K, K = i + j := ⟨_, rfl⟩
          rw [← hK] at hKN
          have h1 := acc_b HOK.out HOK2.out (hSum K) i j (by have := HI.out; omega) (by omega)
          have hp := prod_b HOK.out HOK2.out i j
          have c2 := hrow2.out.cell hKN
          have f2 := hrow2.out.frozen K
          have hst := acc_step (hSum K) a b i j
          have hyes : hSum K i j = true := by unfold hSum; simp; omega
          rw [hyes, if_pos rfl] at hst
          obtain ⟨y, hy⟩ : ∃ y, y = dk b j := ⟨_, rfl⟩
          obtain ⟨p, hpp⟩ : ∃ p, p = dk a i * dk b j := ⟨_, rfl⟩
          obtain ⟨U, hU⟩ : ∃ U, U = acc (hSum K) a b i j := ⟨_, rfl⟩
          obtain ⟨V, hV⟩ : ∃ V, V = acc (hSum K) a b i (j + 1) := ⟨_, rfl⟩
          rw [← hU] at h1 c2 hst
          rw [← hpp] at hp hst
          rw [← hV] at hst
          have g1 : x * y = p := by rw [hpp, HX.out, hy]
          rw [← hy] at d1
          have g2 : U + p = V := hst.symm
          have g3 : (i : Int) + (j : Int) = (K : Int) := by omega
          have k1 : (K : Int) < (N : Int) := by omega
          have w1 : wrap64 p = p := dw64 (by omega) (by omega)
          have w2 : wrap64 V = V := dw64 (by omega) (by omega)
          have w3 : wrap64 (K : Int) = (K : Int) := dw64 (by omega) (by have := HNb.out; omega)
          have HKK := Lib.hid hK
          have HVV := Lib.hid hV
          have HKN := Lib.hid hKN
          clear h1 hp hst hyes hy hpp hU hV hK hk hlt hKN c1 l1 l2
          go_wp2_with fail
          clear w1 w2 w3 g1 g2 g3
          go_roundw
          case rel =>
            refine ⟨j + 1, HK.out.2, by first | rfl | rw [uk.out], (hrow2.out.set K _).congr (fun q hq => ?_), hb2.out.setCell (Nat.le_refl _) _⟩
            by_cases h1 : q = K
            · subst h1; rw [if_pos rfl, HVV.out]
            · rw [if_neg h1, acc_step, show hSum q i j = false by unfold hSum; have := HKK.out; simp; omega]; simp
          case measure => (try rw [uk.out]); have := HK.out; simp [intOf]; omega
        · obtain rfl : j = b.length := by omega
          go_wp2_with fail
          go_roundw
          case rel => exact ⟨i + 1, HI.out.2, by first | rfl | rw [ui.out], hrow2.out.congr (fun q hq => by rw [acc_row]), hb2.out⟩
          case measure => (try rw [ui.out]); have := HI.out; simp [intOf]; omega
    · obtain rfl : i = a.length := by omega
      have HSl := isSlice_row hrow.out HLL.out (fun i hi => HAt.out i hi)
      have HSL := Lib.hid HSl
      have HSg : Hid (Seg wr wr.heap.size (some ⟨w.heap.size, 0, none⟩) ((sumL a b).map (.int .i64))) := rowIs_seg hrow.out (fun i u hu => by
        have hi : i < ((sumL a b).map (Value.int .i64)).length := (List.getElem?_eq_some_iff.1 hu).1
        rw [List.length_map, HLL.out] at hi
        rw [HAt.out i hi, dk_get (by rw [HLL.out]; exact hi)]
        simp [HLL.out, hi] at hu
        exact hu) (by rw [List.length_map, HLL.out]; exact Nat.le_refl _)
      clear HSl
      go_wp2_with fail
      have hcall := dright_any (some ⟨w.heap.size, 0, none⟩) (sumL a b) N wr HSg.out (by rw [HLL.out]; have := HNb.out; omega)
      rw [HLL.out] at hcall
      refine hcall.mono ?_
      rintro e w1 ⟨rfl, rfl⟩
      clear hcall
      cases hdk : dokB (sumL a b) with
      | false =>
        have HF2 := Lib.hid (HF.out.trans (if_pos hdk))
        clear hdk
        go_wp2_with fail
        go_ret2
        exact ⟨_, by rw [HF2.out]; rfl, by rw [HF2.out]; exact isSlice_nil _, hb.out⟩
      | true =>
        have HF2 := Lib.hid (HF.out.trans (if_neg (by rw [hdk]; simp)))
        clear hdk
        go_wp2_with fail
        go_ret2
        exact ⟨_, by rw [HF2.out]; rfl, by rw [HF2.out]; exact HSL.out, hb.out⟩
theorem sum_any (A B : Option Addr) (a b : List Int) (c d : Nat) (w : World) (hs : Seg w w.heap.size A (a.map (.int .i64))) (hm : a.length ≤ 9223372036854775807) (ht : Seg w w.heap.size B (b.map (.int .i64))) (hn : b.length ≤ 9223372036854775807) :
    Calls Try.prog 71 #[.slice A a.length c, .slice B b.length d] w (DOut (sumR a b) w) := by
  by_cases h : DOk a
  · by_cases h' : DOk b
    · by_cases h0 : a.length = 0
      · exact sum_no A B a b c d w hs hm ht hn (.inr (.inr (.inl ⟨h, h', h0⟩)))
      · by_cases h1 : b.length = 0
        · exact sum_no A B a b c d w hs hm ht hn (.inr (.inr (.inr ⟨h, h', h0, h1⟩)))
        · exact sum_yes A B a b c d w hs hm ht hn h h' h0 h1
    · exact sum_no A B a b c d w hs hm ht hn (.inr (.inl ⟨h, h'⟩))
  · exact sum_no A B a b c d w hs hm ht hn (.inl h)
end Go.Proofs.Ytaehehoeidnidaa
