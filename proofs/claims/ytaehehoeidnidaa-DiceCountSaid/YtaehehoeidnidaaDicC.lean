/- Package dice: Most, walked. No condition but the lists' own lengths. -/
import Derived.Test.YtaehehoeidnidaaDicB
namespace Go.Proofs.Ytaehehoeidnidaa
open Go.ChangeShapes Go.WideShapes Go.ChangeAt Go.RowKit
set_option linter.unusedVariables false

def mostL (a b : List Int) : List Int := (List.range (max a.length b.length)).map (dmost a b)
theorem mostL_len (a b : List Int) : (mostL a b).length = max a.length b.length := by simp [mostL]
theorem mostL_at (a b : List Int) {k : Nat} (h : k < max a.length b.length) : dk (mostL a b) k = dmost a b k := by unfold dk mostL; rw [List.getD_eq_getElem?_getD, List.getElem?_map, List.getElem?_range h]; rfl
noncomputable def mostR (a b : List Int) : List Int × Int := if dokB a = false ∨ dokB b = false then ([], 1) else if a.length = 0 ∨ b.length = 0 then ([], 0) else if dokB (mostL a b) = false then ([], 4) else (mostL a b, 0)
set_option maxRecDepth 20000 in
set_option maxHeartbeats 2000000 in
theorem most_no (A B : Option Addr) (a b : List Int) (c d : Nat) (w : World) (hs : Seg w w.heap.size A (a.map (.int .i64))) (hm : a.length ≤ 9223372036854775807) (ht : Seg w w.heap.size B (b.map (.int .i64))) (hn : b.length ≤ 9223372036854775807) (hq : ¬ DOk a ∨ (DOk a ∧ ¬ DOk b) ∨ (DOk a ∧ DOk b ∧ a.length = 0) ∨ (DOk a ∧ DOk b ∧ ¬ a.length = 0 ∧ b.length = 0)) :
    Calls Try.prog 73 #[.slice A a.length c, .slice B b.length d] w (DOut (mostR a b) w) := by
  have HS := Lib.hid hs
  have HM := Lib.hid hm
  have HT := Lib.hid ht
  have HN := Lib.hid hn
  clear hs hm ht hn
  rcases hq with h | ⟨h, h'⟩ | ⟨h, h', h0⟩ | ⟨h, h', h1, h0⟩
  · have HQ := Lib.hid (dokF h)
    have HF : Hid (mostR a b = ([], 1)) := by unfold Hid mostR; rw [if_pos (.inl (dokF h))]
    clear h
    go_enter Try.func73, Try.ntmps73
    go_wp2_with fail
    refine (dright_any A a c _ HS.out HM.out).mono ?_
    rintro e w1 ⟨rfl, rfl⟩
    rw [HQ.out]
    go_wp2_with fail
    go_ret2
    exact ⟨_, by rw [HF.out]; rfl, by rw [HF.out]; exact isSlice_nil w, Below.refl _ _⟩
  · have HQ := Lib.hid (dokT h)
    have HQ2 := Lib.hid (dokF h')
    have HF : Hid (mostR a b = ([], 1)) := by unfold Hid mostR; rw [if_pos (.inr (dokF h'))]
    clear h h'
    go_enter Try.func73, Try.ntmps73
    go_wp2_with fail
    refine (dright_any A a c _ HS.out HM.out).mono ?_
    rintro e w1 ⟨rfl, rfl⟩
    rw [HQ.out]
    go_wp2_with fail
    refine (dright_any B b d _ HT.out HN.out).mono ?_
    rintro e w1 ⟨rfl, rfl⟩
    rw [HQ2.out]
    go_wp2_with fail
    go_ret2
    exact ⟨_, by rw [HF.out]; rfl, by rw [HF.out]; exact isSlice_nil w, Below.refl _ _⟩
  · have HQ := Lib.hid (dokT h)
    have HQ2 := Lib.hid (dokT h')
    have HF : Hid (mostR a b = ([], 0)) := by unfold Hid mostR; rw [if_neg (by rw [dokT h, dokT h']; simp), if_pos (.inl h0)]
    have b1 : ((a.length : Int) == 0) = true := ieq0 h0
    have b2 : (a.length == 0) = true := neq0 h0
    clear h h' h0
    go_enter Try.func73, Try.ntmps73
    go_wp2_with fail
    refine (dright_any A a c _ HS.out HM.out).mono ?_
    rintro e w1 ⟨rfl, rfl⟩
    rw [HQ.out]
    go_wp2_with fail
    refine (dright_any B b d _ HT.out HN.out).mono ?_
    rintro e w1 ⟨rfl, rfl⟩
    rw [HQ2.out]
    go_wp2_with fail
    go_ret2
    exact ⟨_, by rw [HF.out]; rfl, by rw [HF.out]; exact isSlice_nil w, Below.refl _ _⟩
  · have HQ := Lib.hid (dokT h)
    have HQ2 := Lib.hid (dokT h')
    have HF : Hid (mostR a b = ([], 0)) := by unfold Hid mostR; rw [if_neg (by rw [dokT h, dokT h']; simp), if_pos (.inr h0)]
    have b1 : ((a.length : Int) == 0) = false := ine0 h1
    have b2 : (a.length == 0) = false := nne0 h1
    have b3 : ((b.length : Int) == 0) = true := ieq0 h0
    have b4 : (b.length == 0) = true := neq0 h0
    clear h h' h0 h1
    go_enter Try.func73, Try.ntmps73
    go_wp2_with fail
    refine (dright_any A a c _ HS.out HM.out).mono ?_
    rintro e w1 ⟨rfl, rfl⟩
    rw [HQ.out]
    go_wp2_with fail
    refine (dright_any B b d _ HT.out HN.out).mono ?_
    rintro e w1 ⟨rfl, rfl⟩
    rw [HQ2.out]
    go_wp2_with fail
    go_ret2
    exact ⟨_, by rw [HF.out]; rfl, by rw [HF.out]; exact isSlice_nil w, Below.refl _ _⟩
set_option maxRecDepth 20000 in
set_option maxHeartbeats 4000000 in
theorem most_lt (A B : Option Addr) (a b : List Int) (c d : Nat) (w : World) (hs : Seg w w.heap.size A (a.map (.int .i64))) (hm : a.length ≤ 9223372036854775807) (ht : Seg w w.heap.size B (b.map (.int .i64))) (hn : b.length ≤ 9223372036854775807) (hq : DOk a) (hq2 : DOk b) (h0 : ¬ a.length = 0) (h1 : ¬ b.length = 0) (hlt : a.length < b.length) :
    Calls Try.prog 73 #[.slice A a.length c, .slice B b.length d] w (DOut (mostR a b) w) := by
  have HS := Lib.hid hs
  have HM := Lib.hid hm
  have HT := Lib.hid ht
  have HN := Lib.hid hn
  clear hs hm ht hn
  have HQ := Lib.hid (dokT hq)
  have HQ2 := Lib.hid (dokT hq2)
  have HOK := Lib.hid hq
  have HOK2 := Lib.hid hq2
  have HF : Hid (mostR a b = if dokB (mostL a b) = false then ([], 4) else (mostL a b, 0)) := by unfold Hid mostR; rw [if_neg (by rw [dokT hq, dokT hq2]; simp), if_neg (by omega)]
  have b1 : ((a.length : Int) == 0) = false := ine0 h0
  have b2 : (a.length == 0) = false := nne0 h0
  have b3 : ((b.length : Int) == 0) = false := ine0 h1
  have b4 : (b.length == 0) = false := nne0 h1
  have HLn : Hid (1 ≤ a.length ∧ a.length ≤ 200 ∧ 1 ≤ b.length ∧ b.length ≤ 200) := by have := hq.len; have := hq2.len; unfold Hid; omega
  clear hq hq2 h0 h1
  obtain ⟨N, hN⟩ : ∃ N, N = b.length := ⟨_, rfl⟩
  have hNm : N = max a.length b.length := by omega
  have HLL : Hid ((mostL a b).length = N) := by unfold Hid; rw [mostL_len, hNm]
  have HNb : Hid (N ≤ 200) := by have := HLn.out; unfold Hid; omega
  have HNN : Hid (∀ k, k < N → k < a.length ∨ k < b.length) := fun k h => by omega
  have HNO : Hid (∀ k, ¬ k < N → ¬ k < a.length ∧ ¬ k < b.length) := fun k h => by omega
  have HAt : Hid (∀ i, i < N → (Value.int .i64 (if i < N then dmost a b i else 0)) = .int .i64 (dk (mostL a b) i)) := fun i hi => by
    rw [if_pos hi, mostL_at a b (by omega)]
  have hmk := run_make_row' (P := Try.prog) 41 3 (.int .i64 0) 8 Try.underlying41 (by kernel_rfl) rfl .i64 .i64 N (by have := HNb.out; omega) (by have := HNb.out; omega)
  have R0 := Lib.hid (World.rowIs_made w (.int .i64 0) N 3)
  rw [hN] at hmk
  have hxy : (a.length : Int) < (b.length : Int) := by omega
  have HNl := Lib.hid hN
  clear hN hNm hlt
  go_enter Try.func73, Try.ntmps73
  go_wp2_with fail
  refine (dright_any A a c _ HS.out HM.out).mono ?_
  rintro e w1 ⟨rfl, rfl⟩
  rw [HQ.out]
  go_wp2_with fail
  refine (dright_any B b d _ HT.out HN.out).mono ?_
  rintro e w1 ⟨rfl, rfl⟩
  rw [HQ2.out]
  go_wp2_with fail
  clear hmk b1 b2 b3 b4 hxy
  rw [← HNl.out]
  go_loopw [35, 7, 8, 9] (fun s35 s6 s7 s8 wr => ∃ k : Nat, k ≤ N ∧ s35 = .int .i64 k ∧ s6 = .int .i64 (dup a k) ∧ s7 = .int .i64 (dup b k) ∧ s8 = .int .i64 (dup a k * dup b k) ∧ Hid (wr.rowIs w.heap.size 3 N (fun q => .int .i64 (if q < k then dmost a b q else 0))) ∧ Hid (Below w.heap.size w wr)) (fun s35 _ _ _ _ => N - (intOf s35).toNat)
  case atStart => exact ⟨0, Nat.zero_le _, rfl, rfl, rfl, rfl, R0.out.congr (fun i hi => by rw [if_neg (by omega)]), (Below.refl _ _).alloc (Nat.le_refl _) _⟩
  case round =>
    obtain ⟨k, hk, rfl, rfl, rfl, rfl, hrow, hb⟩ := hrel
    by_cases hlt : k < N
    · have i0 : (k : Int) < (N : Int) := by omega
      have c2 := hrow.out.cell hlt
      have f2 := hrow.out.frozen k
      have HK := Lib.hid (And.intro hk hlt)
      have uk : Hid (wrap64 ((k : Int) + 1) = ((k + 1 : Nat) : Int)) := by have := HNb.out; exact dk64 (by omega)
      have hcase := HNN.out k hlt
      have h1 := dup_b HOK.out k
      have h2 := dup_b HOK.out (k + 1)
      have h3 := dup_b HOK2.out k
      have h4 := dup_b HOK2.out (k + 1)
      have hk2 : k + 1 ≤ 200 := by have := HNb.out; omega
      have h5 : (0 ≤ dup a k * dup b k ∧ dup a k * dup b k ≤ 209715200 * 209715200) ∧ 0 ≤ dup a (k + 1) * dup b (k + 1) ∧ dup a (k + 1) * dup b (k + 1) ≤ 209715200 * 209715200 :=
        ⟨⟨Int.mul_nonneg h1.1 h3.1, Int.mul_le_mul (by omega) (by omega) h3.1 (by omega)⟩, Int.mul_nonneg h2.1 h4.1, Int.mul_le_mul (by omega) (by omega) h4.1 (by omega)⟩
      have hdm := dmost_is a b k
      have hu2 : dup a (k + 1) = dup a k + dk a k := rfl
      have ht2 : dup b (k + 1) = dup b k + dk b k := rfl
      rw [if_neg (Nat.lt_irrefl k)] at c2
      obtain ⟨x, hx⟩ : ∃ x, x = dk a k := ⟨_, rfl⟩
      obtain ⟨y, hy⟩ : ∃ y, y = dk b k := ⟨_, rfl⟩
      obtain ⟨U, hU⟩ : ∃ U, U = dup a k := ⟨_, rfl⟩
      obtain ⟨T, hT⟩ : ∃ T, T = dup b k := ⟨_, rfl⟩
      obtain ⟨U2, hU2⟩ : ∃ U2, U2 = dup a (k + 1) := ⟨_, rfl⟩
      obtain ⟨T2, hT2⟩ : ∃ T2, T2 = dup b (k + 1) := ⟨_, rfl⟩
      obtain ⟨M, hM⟩ : ∃ M, M = dmost a b k := ⟨_, rfl⟩
      rw [← hM] at hdm
      rw [← hU, ← hT, ← hU2, ← hT2] at h5 hdm
      rw [← hU] at h1
      rw [← hT] at h3
      rw [← hU2] at h2
      rw [← hT2] at h4
      rw [← hU2, ← hU, ← hx] at hu2
      rw [← hT2, ← hT, ← hy] at ht2
      rw [← hU, ← hT]
      obtain ⟨Q, hwas⟩ : ∃ Q, Q = U * T := ⟨_, rfl⟩
      obtain ⟨Q2, hqp⟩ : ∃ Q2, Q2 = U2 * T2 := ⟨_, rfl⟩
      rw [← hwas, ← hqp] at h5
      rw [← hwas, ← hqp] at hdm
      have hop : M = Q2 - Q := hdm
      rw [← hwas]
      have HQ2' : Hid (dup a (k + 1) * dup b (k + 1) = Q2) := by unfold Hid; rw [← hU2, ← hT2, hqp]
      have HU2 : Hid (dup a (k + 1) = U2) := hU2.symm
      have HT2 : Hid (dup b (k + 1) = T2) := hT2.symm
      have HMM : Hid (M = dmost a b k) := hM
      clear hdm hU hT hU2 hT2 hM
      rcases (by have := HNl.out; omega : (k < a.length ∧ k < b.length) ∨ (¬ k < a.length ∧ k < b.length)) with ⟨q1, q2⟩ | ⟨q1, q2⟩
      · have a1 : decide ((k : Int) < (a.length : Int)) = true := decide_eq_true (by omega)
        have a2 : decide (k < a.length) = true := decide_eq_true (by omega)
        have a3 : decide ((k : Int) < (b.length : Int)) = true := decide_eq_true (by omega)
        have a4 : decide (k < b.length) = true := decide_eq_true (by omega)
        have i1 : (k : Int) < (a.length : Int) := by omega
        obtain ⟨ad, rfl, _, c0⟩ := HS.out.dk (show k < a.length by omega)
        have d0 := (hb.out.cell (block_lt c0)).trans c0
        rw [← hx] at d0
        have g1 : U + x = U2 := hu2.symm
        have w1 : wrap64 U2 = U2 := dw64 (by omega) (by omega)
        have W1 := Lib.hid w1
        clear c0
        have i2 : (k : Int) < (b.length : Int) := by omega
        obtain ⟨ae, rfl, _, c1⟩ := HT.out.dk (show k < b.length by omega)
        have d1 := (hb.out.cell (block_lt c1)).trans c1
        rw [← hy] at d1
        have g2 : T + y = T2 := ht2.symm
        have w2 : wrap64 T2 = T2 := dw64 (by omega) (by omega)
        have W2 := Lib.hid w2
        clear c1
        have g3 : U2 * T2 = Q2 := hqp.symm
        have g4 : Q2 - Q = M := hop.symm
        have w3 : wrap64 Q2 = Q2 := dw64 (by omega) (by omega)
        have w4 : wrap64 M = M := dw64 (by omega) (by omega)
        have W3 := Lib.hid w3
        clear hqp hop hwas hu2 ht2 h1 h2 h3 h4 h5 hx hy hk hlt
        go_wp2_with fail
        clear w3 w4 g3 g4
        go_roundw
        case rel =>
          refine ⟨k + 1, HK.out.2, by first | rfl | rw [uk.out], (by rw [HU2.out] <;> first | rfl | rw [W1.out]), (by rw [HT2.out] <;> first | rfl | rw [W2.out]), (by rw [HQ2'.out] <;> first | rfl | rw [W3.out]), (hrow.out.set k _).congr (fun q hq => ?_), hb.out.setCell (Nat.le_refl _) _⟩
          by_cases e1 : q = k
          · subst e1; rw [if_pos rfl, if_pos (by omega), HMM.out]
          · rw [if_neg e1]
            by_cases e2 : q < k
            · rw [if_pos e2, if_pos (by omega)]
            · rw [if_neg e2, if_neg (by omega)]
        case measure => (try rw [uk.out]); have := HK.out; simp [intOf]; omega
      · have a1 : decide ((k : Int) < (a.length : Int)) = false := decide_eq_false (by omega)
        have a2 : decide (k < a.length) = false := decide_eq_false (by omega)
        have a3 : decide ((k : Int) < (b.length : Int)) = true := decide_eq_true (by omega)
        have a4 : decide (k < b.length) = true := decide_eq_true (by omega)
        have e1 : U2 = U := by rw [hu2, hx, dk_out (by omega)]; omega
        rw [e1] at hqp HU2
        clear e1
        have i2 : (k : Int) < (b.length : Int) := by omega
        obtain ⟨ae, rfl, _, c1⟩ := HT.out.dk (show k < b.length by omega)
        have d1 := (hb.out.cell (block_lt c1)).trans c1
        rw [← hy] at d1
        have g2 : T + y = T2 := ht2.symm
        have w2 : wrap64 T2 = T2 := dw64 (by omega) (by omega)
        have W2 := Lib.hid w2
        clear c1
        have g3 : U * T2 = Q2 := hqp.symm
        have g4 : Q2 - Q = M := hop.symm
        have w3 : wrap64 Q2 = Q2 := dw64 (by omega) (by omega)
        have w4 : wrap64 M = M := dw64 (by omega) (by omega)
        have W3 := Lib.hid w3
        clear hqp hop hwas hu2 ht2 h1 h2 h3 h4 h5 hx hy hk hlt
        go_wp2_with fail
        clear w3 w4 g3 g4
        go_roundw
        case rel =>
          refine ⟨k + 1, HK.out.2, by first | rfl | rw [uk.out], (by rw [HU2.out] <;> first | rfl | rw [W1.out]), (by rw [HT2.out] <;> first | rfl | rw [W2.out]), (by rw [HQ2'.out] <;> first | rfl | rw [W3.out]), (hrow.out.set k _).congr (fun q hq => ?_), hb.out.setCell (Nat.le_refl _) _⟩
          by_cases e1 : q = k
          · subst e1; rw [if_pos rfl, if_pos (by omega), HMM.out]
          · rw [if_neg e1]
            by_cases e2 : q < k
            · rw [if_pos e2, if_pos (by omega)]
            · rw [if_neg e2, if_neg (by omega)]
        case measure => (try rw [uk.out]); have := HK.out; simp [intOf]; omega
    · obtain rfl : k = N := by omega
      have HSl := isSlice_row hrow.out HLL.out (fun i hi => HAt.out i hi)
      have HSL := Lib.hid HSl
      have HSg : Hid (Seg wr wr.heap.size (some ⟨w.heap.size, 0, none⟩) ((mostL a b).map (.int .i64))) := rowIs_seg hrow.out (fun i u hu => by
        have hi : i < ((mostL a b).map (Value.int .i64)).length := (List.getElem?_eq_some_iff.1 hu).1
        rw [List.length_map, HLL.out] at hi
        rw [HAt.out i hi, dk_get (by rw [HLL.out]; exact hi)]
        simp [HLL.out, hi] at hu
        exact hu) (by rw [List.length_map, HLL.out]; exact Nat.le_refl _)
      clear HSl
      go_wp2_with fail
      have hcall := dright_any (some ⟨w.heap.size, 0, none⟩) (mostL a b) k wr HSg.out (by rw [HLL.out]; have := HNb.out; omega)
      rw [HLL.out] at hcall
      refine hcall.mono ?_
      rintro e w1 ⟨rfl, rfl⟩
      clear hcall
      cases hdk : dokB (mostL a b) with
      | false =>
        have HF2 := Lib.hid (HF.out.trans (if_pos hdk))
        clear hdk
        go_wp2_with fail
        go_ret2
        exact ⟨_, by rw [HF2.out]; rfl, by rw [HF2.out]; exact isSlice_nil _, hb.out⟩
      | true =>
        have HF2 := Lib.hid (HF.out.trans (if_neg (by rw [hdk]; simp)))
        clear hdk
        go_wp2_with fail
        go_ret2
        exact ⟨_, by rw [HF2.out]; rfl, by rw [HF2.out]; exact HSL.out, hb.out⟩

set_option maxRecDepth 20000 in
set_option maxHeartbeats 4000000 in
theorem most_ge (A B : Option Addr) (a b : List Int) (c d : Nat) (w : World) (hs : Seg w w.heap.size A (a.map (.int .i64))) (hm : a.length ≤ 9223372036854775807) (ht : Seg w w.heap.size B (b.map (.int .i64))) (hn : b.length ≤ 9223372036854775807) (hq : DOk a) (hq2 : DOk b) (h0 : ¬ a.length = 0) (h1 : ¬ b.length = 0) (hlt : ¬ a.length < b.length) :
    Calls Try.prog 73 #[.slice A a.length c, .slice B b.length d] w (DOut (mostR a b) w) := by
  have HS := Lib.hid hs
  have HM := Lib.hid hm
  have HT := Lib.hid ht
  have HN := Lib.hid hn
  clear hs hm ht hn
  have HQ := Lib.hid (dokT hq)
  have HQ2 := Lib.hid (dokT hq2)
  have HOK := Lib.hid hq
  have HOK2 := Lib.hid hq2
  have HF : Hid (mostR a b = if dokB (mostL a b) = false then ([], 4) else (mostL a b, 0)) := by unfold Hid mostR; rw [if_neg (by rw [dokT hq, dokT hq2]; simp), if_neg (by omega)]
  have b1 : ((a.length : Int) == 0) = false := ine0 h0
  have b2 : (a.length == 0) = false := nne0 h0
  have b3 : ((b.length : Int) == 0) = false := ine0 h1
  have b4 : (b.length == 0) = false := nne0 h1
  have HLn : Hid (1 ≤ a.length ∧ a.length ≤ 200 ∧ 1 ≤ b.length ∧ b.length ≤ 200) := by have := hq.len; have := hq2.len; unfold Hid; omega
  clear hq hq2 h0 h1
  obtain ⟨N, hN⟩ : ∃ N, N = a.length := ⟨_, rfl⟩
  have hNm : N = max a.length b.length := by omega
  have HLL : Hid ((mostL a b).length = N) := by unfold Hid; rw [mostL_len, hNm]
  have HNb : Hid (N ≤ 200) := by have := HLn.out; unfold Hid; omega
  have HNN : Hid (∀ k, k < N → k < a.length ∨ k < b.length) := fun k h => by omega
  have HNO : Hid (∀ k, ¬ k < N → ¬ k < a.length ∧ ¬ k < b.length) := fun k h => by omega
  have HAt : Hid (∀ i, i < N → (Value.int .i64 (if i < N then dmost a b i else 0)) = .int .i64 (dk (mostL a b) i)) := fun i hi => by
    rw [if_pos hi, mostL_at a b (by omega)]
  have hmk := run_make_row' (P := Try.prog) 41 3 (.int .i64 0) 8 Try.underlying41 (by kernel_rfl) rfl .i64 .i64 N (by have := HNb.out; omega) (by have := HNb.out; omega)
  have R0 := Lib.hid (World.rowIs_made w (.int .i64 0) N 3)
  rw [hN] at hmk
  have hxy : ¬ (a.length : Int) < (b.length : Int) := by omega
  have HNl := Lib.hid hN
  clear hN hNm hlt
  go_enter Try.func73, Try.ntmps73
  go_wp2_with fail
  refine (dright_any A a c _ HS.out HM.out).mono ?_
  rintro e w1 ⟨rfl, rfl⟩
  rw [HQ.out]
  go_wp2_with fail
  refine (dright_any B b d _ HT.out HN.out).mono ?_
  rintro e w1 ⟨rfl, rfl⟩
  rw [HQ2.out]
  go_wp2_with fail
  clear hmk b1 b2 b3 b4 hxy
  rw [← HNl.out]
  go_loopw [35, 7, 8, 9] (fun s35 s6 s7 s8 wr => ∃ k : Nat, k ≤ N ∧ s35 = .int .i64 k ∧ s6 = .int .i64 (dup a k) ∧ s7 = .int .i64 (dup b k) ∧ s8 = .int .i64 (dup a k * dup b k) ∧ Hid (wr.rowIs w.heap.size 3 N (fun q => .int .i64 (if q < k then dmost a b q else 0))) ∧ Hid (Below w.heap.size w wr)) (fun s35 _ _ _ _ => N - (intOf s35).toNat)
  case atStart => exact ⟨0, Nat.zero_le _, rfl, rfl, rfl, rfl, R0.out.congr (fun i hi => by rw [if_neg (by omega)]), (Below.refl _ _).alloc (Nat.le_refl _) _⟩
  case round =>
    obtain ⟨k, hk, rfl, rfl, rfl, rfl, hrow, hb⟩ := hrel
    by_cases hlt : k < N
    · have i0 : (k : Int) < (N : Int) := by omega
      have c2 := hrow.out.cell hlt
      have f2 := hrow.out.frozen k
      have HK := Lib.hid (And.intro hk hlt)
      have uk : Hid (wrap64 ((k : Int) + 1) = ((k + 1 : Nat) : Int)) := by have := HNb.out; exact dk64 (by omega)
      have hcase := HNN.out k hlt
      have h1 := dup_b HOK.out k
      have h2 := dup_b HOK.out (k + 1)
      have h3 := dup_b HOK2.out k
      have h4 := dup_b HOK2.out (k + 1)
      have hk2 : k + 1 ≤ 200 := by have := HNb.out; omega
      have h5 : (0 ≤ dup a k * dup b k ∧ dup a k * dup b k ≤ 209715200 * 209715200) ∧ 0 ≤ dup a (k + 1) * dup b (k + 1) ∧ dup a (k + 1) * dup b (k + 1) ≤ 209715200 * 209715200 :=
        ⟨⟨Int.mul_nonneg h1.1 h3.1, Int.mul_le_mul (by omega) (by omega) h3.1 (by omega)⟩, Int.mul_nonneg h2.1 h4.1, Int.mul_le_mul (by omega) (by omega) h4.1 (by omega)⟩
      have hdm := dmost_is a b k
      have hu2 : dup a (k + 1) = dup a k + dk a k := rfl
      have ht2 : dup b (k + 1) = dup b k + dk b k := rfl
      rw [if_neg (Nat.lt_irrefl k)] at c2
      obtain ⟨x, hx⟩ : ∃ x, x = dk a k := ⟨_, rfl⟩
      obtain ⟨y, hy⟩ : ∃ y, y = dk b k := ⟨_, rfl⟩
      obtain ⟨U, hU⟩ : ∃ U, U = dup a k := ⟨_, rfl⟩
      obtain ⟨T, hT⟩ : ∃ T, T = dup b k := ⟨_, rfl⟩
      obtain ⟨U2, hU2⟩ : ∃ U2, U2 = dup a (k + 1) := ⟨_, rfl⟩
      obtain ⟨T2, hT2⟩ : ∃ T2, T2 = dup b (k + 1) := ⟨_, rfl⟩
      obtain ⟨M, hM⟩ : ∃ M, M = dmost a b k := ⟨_, rfl⟩
      rw [← hM] at hdm
      rw [← hU, ← hT, ← hU2, ← hT2] at h5 hdm
      rw [← hU] at h1
      rw [← hT] at h3
      rw [← hU2] at h2
      rw [← hT2] at h4
      rw [← hU2, ← hU, ← hx] at hu2
      rw [← hT2, ← hT, ← hy] at ht2
      rw [← hU, ← hT]
      obtain ⟨Q, hwas⟩ : ∃ Q, Q = U * T := ⟨_, rfl⟩
      obtain ⟨Q2, hqp⟩ : ∃ Q2, Q2 = U2 * T2 := ⟨_, rfl⟩
      rw [← hwas, ← hqp] at h5
      rw [← hwas, ← hqp] at hdm
      have hop : M = Q2 - Q := hdm
      rw [← hwas]
      have HQ2' : Hid (dup a (k + 1) * dup b (k + 1) = Q2) := by unfold Hid; rw [← hU2, ← hT2, hqp]
      have HU2 : Hid (dup a (k + 1) = U2) := hU2.symm
      have HT2 : Hid (dup b (k + 1) = T2) := hT2.symm
      have HMM : Hid (M = dmost a b k) := hM
      clear hdm hU hT hU2 hT2 hM
      rcases (by have := HNl.out; omega : (k < a.length ∧ k < b.length) ∨ (k < a.length ∧ ¬ k < b.length)) with ⟨q1, q2⟩ | ⟨q1, q2⟩
      · have a1 : decide ((k : Int) < (a.length : Int)) = true := decide_eq_true (by omega)
        have a2 : decide (k < a.length) = true := decide_eq_true (by omega)
        have a3 : decide ((k : Int) < (b.length : Int)) = true := decide_eq_true (by omega)
        have a4 : decide (k < b.length) = true := decide_eq_true (by omega)
        have i1 : (k : Int) < (a.length : Int) := by omega
        obtain ⟨ad, rfl, _, c0⟩ := HS.out.dk (show k < a.length by omega)
        have d0 := (hb.out.cell (block_lt c0)).trans c0
        rw [← hx] at d0
        have g1 : U + x = U2 := hu2.symm
        have w1 : wrap64 U2 = U2 := dw64 (by omega) (by omega)
        have W1 := Lib.hid w1
        clear c0
        have i2 : (k : Int) < (b.length : Int) := by omega
        obtain ⟨ae, rfl, _, c1⟩ := HT.out.dk (show k < b.length by omega)
        have d1 := (hb.out.cell (block_lt c1)).trans c1
        rw [← hy] at d1
        have g2 : T + y = T2 := ht2.symm
        have w2 : wrap64 T2 = T2 := dw64 (by omega) (by omega)
        have W2 := Lib.hid w2
        clear c1
        have g3 : U2 * T2 = Q2 := hqp.symm
        have g4 : Q2 - Q = M := hop.symm
        have w3 : wrap64 Q2 = Q2 := dw64 (by omega) (by omega)
        have w4 : wrap64 M = M := dw64 (by omega) (by omega)
        have W3 := Lib.hid w3
        clear hqp hop hwas hu2 ht2 h1 h2 h3 h4 h5 hx hy hk hlt
        go_wp2_with fail
        clear w3 w4 g3 g4
        go_roundw
        case rel =>
          refine ⟨k + 1, HK.out.2, by first | rfl | rw [uk.out], (by rw [HU2.out] <;> first | rfl | rw [W1.out]), (by rw [HT2.out] <;> first | rfl | rw [W2.out]), (by rw [HQ2'.out] <;> first | rfl | rw [W3.out]), (hrow.out.set k _).congr (fun q hq => ?_), hb.out.setCell (Nat.le_refl _) _⟩
          by_cases e1 : q = k
          · subst e1; rw [if_pos rfl, if_pos (by omega), HMM.out]
          · rw [if_neg e1]
            by_cases e2 : q < k
            · rw [if_pos e2, if_pos (by omega)]
            · rw [if_neg e2, if_neg (by omega)]
        case measure => (try rw [uk.out]); have := HK.out; simp [intOf]; omega
      · have a1 : decide ((k : Int) < (a.length : Int)) = true := decide_eq_true (by omega)
        have a2 : decide (k < a.length) = true := decide_eq_true (by omega)
        have a3 : decide ((k : Int) < (b.length : Int)) = false := decide_eq_false (by omega)
        have a4 : decide (k < b.length) = false := decide_eq_false (by omega)
        have i1 : (k : Int) < (a.length : Int) := by omega
        obtain ⟨ad, rfl, _, c0⟩ := HS.out.dk (show k < a.length by omega)
        have d0 := (hb.out.cell (block_lt c0)).trans c0
        rw [← hx] at d0
        have g1 : U + x = U2 := hu2.symm
        have w1 : wrap64 U2 = U2 := dw64 (by omega) (by omega)
        have W1 := Lib.hid w1
        clear c0
        have e2 : T2 = T := by rw [ht2, hy, dk_out (by omega)]; omega
        rw [e2] at hqp HT2
        clear e2
        have g3 : U2 * T = Q2 := hqp.symm
        have g4 : Q2 - Q = M := hop.symm
        have w3 : wrap64 Q2 = Q2 := dw64 (by omega) (by omega)
        have w4 : wrap64 M = M := dw64 (by omega) (by omega)
        have W3 := Lib.hid w3
        clear hqp hop hwas hu2 ht2 h1 h2 h3 h4 h5 hx hy hk hlt
        go_wp2_with fail
        clear w3 w4 g3 g4
        go_roundw
        case rel =>
          refine ⟨k + 1, HK.out.2, by first | rfl | rw [uk.out], (by rw [HU2.out] <;> first | rfl | rw [W1.out]), (by rw [HT2.out] <;> first | rfl | rw [W2.out]), (by rw [HQ2'.out] <;> first | rfl | rw [W3.out]), (hrow.out.set k _).congr (fun q hq => ?_), hb.out.setCell (Nat.le_refl _) _⟩
          by_cases e1 : q = k
          · subst e1; rw [if_pos rfl, if_pos (by omega), HMM.out]
          · rw [if_neg e1]
            by_cases e2 : q < k
            · rw [if_pos e2, if_pos (by omega)]
            · rw [if_neg e2, if_neg (by omega)]
        case measure => (try rw [uk.out]); have := HK.out; simp [intOf]; omega
    · obtain rfl : k = N := by omega
      have HSl := isSlice_row hrow.out HLL.out (fun i hi => HAt.out i hi)
      have HSL := Lib.hid HSl
      have HSg : Hid (Seg wr wr.heap.size (some ⟨w.heap.size, 0, none⟩) ((mostL a b).map (.int .i64))) := rowIs_seg hrow.out (fun i u hu => by
        have hi : i < ((mostL a b).map (Value.int .i64)).length := (List.getElem?_eq_some_iff.1 hu).1
        rw [List.length_map, HLL.out] at hi
        rw [HAt.out i hi, dk_get (by rw [HLL.out]; exact hi)]
        simp [HLL.out, hi] at hu
        exact hu) (by rw [List.length_map, HLL.out]; exact Nat.le_refl _)
      clear HSl
      go_wp2_with fail
      have hcall := dright_any (some ⟨w.heap.size, 0, none⟩) (mostL a b) k wr HSg.out (by rw [HLL.out]; have := HNb.out; omega)
      rw [HLL.out] at hcall
      refine hcall.mono ?_
      rintro e w1 ⟨rfl, rfl⟩
      clear hcall
      cases hdk : dokB (mostL a b) with
      | false =>
        have HF2 := Lib.hid (HF.out.trans (if_pos hdk))
        clear hdk
        go_wp2_with fail
        go_ret2
        exact ⟨_, by rw [HF2.out]; rfl, by rw [HF2.out]; exact isSlice_nil _, hb.out⟩
      | true =>
        have HF2 := Lib.hid (HF.out.trans (if_neg (by rw [hdk]; simp)))
        clear hdk
        go_wp2_with fail
        go_ret2
        exact ⟨_, by rw [HF2.out]; rfl, by rw [HF2.out]; exact HSL.out, hb.out⟩

theorem most_any (A B : Option Addr) (a b : List Int) (c d : Nat) (w : World) (hs : Seg w w.heap.size A (a.map (.int .i64))) (hm : a.length ≤ 9223372036854775807) (ht : Seg w w.heap.size B (b.map (.int .i64))) (hn : b.length ≤ 9223372036854775807) :
    Calls Try.prog 73 #[.slice A a.length c, .slice B b.length d] w (DOut (mostR a b) w) := by
  by_cases h : DOk a
  · by_cases h' : DOk b
    · by_cases h0 : a.length = 0
      · exact most_no A B a b c d w hs hm ht hn (.inr (.inr (.inl ⟨h, h', h0⟩)))
      · by_cases h1 : b.length = 0
        · exact most_no A B a b c d w hs hm ht hn (.inr (.inr (.inr ⟨h, h', h0, h1⟩)))
        · by_cases h2 : a.length < b.length
          · exact most_lt A B a b c d w hs hm ht hn h h' h0 h1 h2
          · exact most_ge A B a b c d w hs hm ht hn h h' h0 h1 h2
    · exact most_no A B a b c d w hs hm ht hn (.inr (.inl ⟨h, h'⟩))
  · exact most_no A B a b c d w hs hm ht hn (.inl h)
end Go.Proofs.Ytaehehoeidnidaa
