/- Package dice: Die, Mean and Beats, walked. No condition but the list's own length. -/
import Derived.Test.YtaehehoeidnidaaDicW
namespace Go.Proofs.Ytaehehoeidnidaa
open Go.ChangeShapes Go.WideShapes Go.ChangeAt Go.RowKit
set_option linter.unusedVariables false

/-- A call's answer: a slice of numbers, and an error's number. -/
def DOut (r : List Int × Int) (w : World) (e : Ending) (w' : World) : Prop := ∃ v, e = .returned (.tuple #[v, .int .i64 r.2]) ∧ IsSlice w' v (r.1.map (.int .i64)) ∧ Below w.heap.size w w'
theorem isSlice_nil (w : World) : IsSlice w (.slice none 0 0) [] := ⟨none, 0, rfl, Nat.le_refl _, Seg.nil⟩
theorem isSlice_row {w : World} {g n : Nat} {F : Nat → Value} {l : List Int} (h : w.rowIs g 3 n F) (hl : l.length = n) (hF : ∀ i, i < n → F i = .int .i64 (dk l i)) : IsSlice w (.slice (some ⟨g, 0, none⟩) n n) (l.map (.int .i64)) := by
  refine ⟨_, n, by rw [List.length_map, hl], by rw [List.length_map, hl]; exact Nat.le_refl _, rowIs_seg h (fun i u hu => ?_) (by rw [List.length_map, hl]; exact Nat.le_refl _)⟩
  have hi : i < (l.map (Value.int .i64)).length := (List.getElem?_eq_some_iff.1 hu).1
  rw [List.length_map] at hi
  rw [hF i (by omega), dk_get hi]
  simp [hi] at hu
  exact hu
def dieL (n : Nat) : List Int := 0 :: List.replicate n 1
def dieR (sides : Int) : List Int × Int := if sides < 1 ∨ 100 < sides then ([], 2) else (dieL sides.toNat, 0)
theorem dieL_at (n i : Nat) (h : i < n + 1) : dk (dieL n) i = if 0 < i ∧ i ≤ n then 1 else 0 := by
  cases i with
  | zero => rfl
  | succ i =>
    have hi : i < n := by omega
    rw [if_pos (by omega)]; unfold dk dieL; simp [List.getD, hi]
set_option maxRecDepth 20000 in
set_option maxHeartbeats 2000000 in
theorem die_any (sides : Int) (w : World) : Calls Try.prog 70 #[.int .i64 sides] w (DOut (dieR sides) w) := by
  rcases (by omega : sides < 1 ∨ (¬ sides < 1 ∧ 100 < sides) ∨ (¬ sides < 1 ∧ ¬ 100 < sides)) with h | ⟨h, h'⟩ | ⟨h, h'⟩
  · have HF : Hid (dieR sides = ([], 2)) := if_pos (.inl h)
    have b1 : decide (sides < 1) = true := decide_eq_true h
    clear h
    go_enter Try.func70, Try.ntmps70
    go_wp2_with fail
    go_ret2
    exact ⟨_, by rw [HF.out]; rfl, by rw [HF.out]; exact isSlice_nil w, Below.refl _ _⟩
  · have HF : Hid (dieR sides = ([], 2)) := if_pos (.inr h')
    have b1 : decide (sides < 1) = false := decide_eq_false h
    have b2 : decide (100 < sides) = true := decide_eq_true h'
    clear h h'
    go_enter Try.func70, Try.ntmps70
    go_wp2_with fail
    go_ret2
    exact ⟨_, by rw [HF.out]; rfl, by rw [HF.out]; exact isSlice_nil w, Below.refl _ _⟩
  · obtain ⟨N, rfl⟩ : ∃ N : Nat, sides = N := ⟨sides.toNat, by omega⟩
    have HF : Hid (dieR N = (dieL N, 0)) := if_neg (by omega)
    have hN : N ≤ 100 := by omega
    have HN := Lib.hid hN
    have b1 : decide ((N : Int) < 1) = false := decide_eq_false h
    have b2 : decide (100 < (N : Int)) = false := decide_eq_false h'
    have b3 : decide (N < 1) = false := decide_eq_false (by omega)
    have b4 : decide (100 < N) = false := decide_eq_false (by omega)
    have hmk := run_make_row' (P := Try.prog) 41 3 (.int .i64 0) 8 Try.underlying41 (by kernel_rfl) rfl .i64 .i64 (N + 1) (by omega) (by omega)
    rw [show ((N + 1 : Nat) : Int) = (N : Int) + 1 by omega] at hmk
    have R0 := Lib.hid (World.rowIs_made w (.int .i64 0) (N + 1) 3)
    clear h h'
    go_enter Try.func70, Try.ntmps70
    go_wp2_with fail
    clear hmk b1 b2 b3 b4
    go_loopw [16] (fun s16 wr => ∃ k : Nat, k ≤ N ∧ s16 = .int .i64 k ∧ Hid (wr.rowIs w.heap.size 3 (N + 1) (fun i => .int .i64 (if 0 < i ∧ i ≤ k then 1 else 0))) ∧ Hid (Below w.heap.size w wr)) (fun s16 _ => N - (intOf s16).toNat)
    case atStart => exact ⟨0, Nat.zero_le _, rfl, R0.out.congr (fun i hi => by rw [if_neg (by omega)]), (Below.refl _ _).alloc (Nat.le_refl _) _⟩
    case round =>
      obtain ⟨k, hk, rfl, hrow, hb⟩ := hrel
      by_cases hlt : k < N
      · have c1 := hrow.out.cell (show k + 1 < N + 1 by omega)
        have f1 := hrow.out.frozen (k + 1)
        rw [if_neg (by omega)] at c1
        have i1 : (k : Int) < (N : Int) := by omega
        have i2 : (k : Int) + 1 < (N : Int) + 1 := by omega
        have HK := Lib.hid (And.intro hk hlt)
        go_wp2_with fail
        go_roundw
        case rel =>
          refine ⟨k + 1, by have := HK.out; omega, by first | rfl | go_num, (hrow.out.set (k + 1) _).congr (fun i hi => ?_), hb.out.setCell (Nat.le_refl _) _⟩
          by_cases h1 : i = k + 1
          · subst h1; rw [if_pos rfl, if_pos (by omega)]
          · rw [if_neg h1]
            by_cases h2 : 0 < i ∧ i ≤ k
            · rw [if_pos h2, if_pos (by omega)]
            · rw [if_neg h2, if_neg (by omega)]
        case measure => have := HK.out; simp [intOf]; omega
      · obtain rfl : k = N := by omega
        go_wp2_with fail
        go_ret2
        refine ⟨_, by rw [HF.out]; rfl, ?_, hb.out⟩
        rw [HF.out]
        exact isSlice_row hrow.out (by simp [dieL]) (fun i hi => by rw [dieL_at _ _ hi])
/-- Mean, as far as place k. -/
def dmean (l : List Int) : Nat → Int
  | 0 => 0
  | k + 1 => dmean l k + k * dk l k
theorem dmean_b {l : List Int} (h : DOk l) : ∀ k, k ≤ 200 → 0 ≤ dmean l k ∧ dmean l k ≤ 209715200 * k
  | 0, _ => by simp [dmean]
  | k + 1, hk => by
    have ih := dmean_b h k (by omega)
    have h1 := h.b k
    have h2 : 0 ≤ (k : Int) * dk l k ∧ (k : Int) * dk l k ≤ 200 * 1048576 := ⟨Int.mul_nonneg (by omega) h1.1, Int.mul_le_mul (by omega) h1.2 h1.1 (by omega)⟩
    simp only [dmean]
    omega
noncomputable def meanR (l : List Int) : Int × Int × Int := if dokB l = false then (0, 0, 1) else (dmean l l.length, dup l l.length, 0)
set_option maxRecDepth 20000 in
set_option maxHeartbeats 2000000 in
theorem mean_any (A : Option Addr) (l : List Int) (c : Nat) (w : World) (hs : Seg w w.heap.size A (l.map (.int .i64))) (hm : l.length ≤ 9223372036854775807) :
    Calls Try.prog 74 #[.slice A l.length c] w fun e w' => e = .returned (.tuple #[.int .i64 (meanR l).1, .int .i64 (meanR l).2.1, .int .i64 (meanR l).2.2]) ∧ w = w' := by
  have HS := Lib.hid hs
  have HM := Lib.hid hm
  clear hs hm
  by_cases hq : DOk l
  · have HQ := Lib.hid (dokT hq)
    have HOK := Lib.hid hq
    have HF : Hid (meanR l = (dmean l l.length, dup l l.length, 0)) := by unfold Hid meanR; rw [if_neg (by rw [dokT hq]; simp)]
    clear hq
    go_enter Try.func74, Try.ntmps74
    go_wp2_with fail
    refine (dright_any A l c _ HS.out HM.out).mono ?_
    rintro e w1 ⟨rfl, rfl⟩
    rw [HQ.out]
    go_wp2_with fail
    go_loop [5, 6, 14] (fun s5 s6 s14 => ∃ k : Nat, k ≤ l.length ∧ s5 = .int .i64 (dmean l k) ∧ s6 = .int .i64 (dup l k) ∧ s14 = .int .i64 k) (fun _ _ s14 => l.length - (intOf s14).toNat)
    case atStart => exact ⟨0, Nat.zero_le _, rfl, rfl, rfl⟩
    case round =>
      obtain ⟨k, hk, rfl, rfl, rfl⟩ := hrel
      by_cases hlt : k < l.length
      · have i1 : (k : Int) < (l.length : Int) := by omega
        obtain ⟨ad, rfl, _, c0⟩ := HS.out.dk hlt
        have hl := HOK.out.len
        have h1 := dmean_b HOK.out k (by omega)
        have h2 := dmean_b HOK.out (k + 1) (by omega)
        have h3 := dup_b HOK.out k
        have h4 := dup_b HOK.out (k + 1)
        have e1 : dmean l k + (k : Int) * dk l k = dmean l (k + 1) := rfl
        have e2 : dup l k + dk l k = dup l (k + 1) := rfl
        have h5 := HOK.out.b k
        have h6 : 0 ≤ (k : Int) * dk l k ∧ (k : Int) * dk l k ≤ 200 * 1048576 := ⟨Int.mul_nonneg (by omega) h5.1, Int.mul_le_mul (by omega) h5.2 h5.1 (by omega)⟩
        have HK := Lib.hid (And.intro hk hlt)
        have uk : Hid (wrap64 ((k : Int) + 1) = ((k + 1 : Nat) : Int)) := dk64 (by omega)
        obtain ⟨M2, hM2⟩ : ∃ M2, M2 = dmean l (k + 1) := ⟨_, rfl⟩
        obtain ⟨U2, hU2⟩ : ∃ U2, U2 = dup l (k + 1) := ⟨_, rfl⟩
        rw [← hM2] at h2 e1
        rw [← hU2] at h4 e2
        have HM2 := Lib.hid hM2
        have HU2 := Lib.hid hU2
        clear hM2 hU2
        generalize dmean l k = M1 at *
        generalize dup l k = U1 at *
        generalize dk l k = n at *
        obtain ⟨q, hq⟩ : ∃ q, q = (k : Int) * n := ⟨_, rfl⟩
        rw [← hq] at e1 h6
        have f1 : (k : Int) * n = q := hq.symm
        have w1 : Hid (wrap64 q = q) := dw64 (by omega) (by omega)
        have w2 : Hid (wrap64 M2 = M2) := dw64 (by omega) (by omega)
        have w3 : Hid (wrap64 U2 = U2) := dw64 (by omega) (by omega)
        clear h1 h2 h3 h4 h5 h6 hq hl hk hlt
        have v1 := w1.out; have v2 := w2.out; have v3 := w3.out
        go_wp2_with fail
        clear v1 v2 v3
        go_round
        case rel => exact ⟨k + 1, HK.out.2, (by rw [← HM2.out]; first | rfl | rw [w2.out]), (by rw [← HU2.out]; first | rfl | rw [w3.out]), by first | rfl | rw [uk.out]⟩
        case measure => (try rw [uk.out]); have := HK.out; clear e1 e2 f1; simp [intOf]; omega
      · obtain rfl : k = l.length := by omega
        go_wp2_with fail
        go_ret3
        exact ⟨by rw [HF.out]; rfl, rfl⟩
  · have HQ := Lib.hid (dokF hq)
    have HF : Hid (meanR l = (0, 0, 1)) := by unfold Hid meanR; rw [if_pos (dokF hq)]
    clear hq
    go_enter Try.func74, Try.ntmps74
    go_wp2_with fail
    refine (dright_any A l c _ HS.out HM.out).mono ?_
    rintro e w1 ⟨rfl, rfl⟩
    rw [HQ.out]
    go_wp2_with fail
    go_ret3
    exact ⟨by rw [HF.out]; rfl, rfl⟩
noncomputable def beatsR (a b : List Int) : Int × Int × Int := if dokB a = false ∨ dokB b = false then (0, 0, 1) else (acc hUp a b a.length 0, acc hLike a b a.length 0, 0)
set_option maxRecDepth 20000 in
set_option maxHeartbeats 4000000 in
theorem beats_any (A B : Option Addr) (a b : List Int) (c d : Nat) (w : World) (hs : Seg w w.heap.size A (a.map (.int .i64))) (hm : a.length ≤ 9223372036854775807) (ht : Seg w w.heap.size B (b.map (.int .i64))) (hn : b.length ≤ 9223372036854775807) :
    Calls Try.prog 72 #[.slice A a.length c, .slice B b.length d] w fun e w' => e = .returned (.tuple #[.int .i64 (beatsR a b).1, .int .i64 (beatsR a b).2.1, .int .i64 (beatsR a b).2.2]) ∧ w = w' := by
  have HS := Lib.hid hs
  have HM := Lib.hid hm
  have HT := Lib.hid ht
  have HN := Lib.hid hn
  clear hs hm ht hn
  by_cases hqa : DOk a
  · have HQ := Lib.hid (dokT hqa)
    have HOK := Lib.hid hqa
    by_cases hqb : DOk b
    · have HQ2 := Lib.hid (dokT hqb)
      have HOK2 := Lib.hid hqb
      have HF : Hid (beatsR a b = (acc hUp a b a.length 0, acc hLike a b a.length 0, 0)) := by unfold Hid beatsR; rw [if_neg (by rw [dokT hqa, dokT hqb]; simp)]
      clear hqa hqb
      go_enter Try.func72, Try.ntmps72
      go_wp2_with fail
      refine (dright_any A a c _ HS.out HM.out).mono ?_
      rintro e w1 ⟨rfl, rfl⟩
      rw [HQ.out]
      go_wp2_with fail
      refine (dright_any B b d _ HT.out HN.out).mono ?_
      rintro e w1 ⟨rfl, rfl⟩
      rw [HQ2.out]
      go_wp2_with fail
      go_loop [7, 8, 23] (fun s7 s8 s23 => ∃ i : Nat, i ≤ a.length ∧ s7 = .int .i64 (acc hUp a b i 0) ∧ s8 = .int .i64 (acc hLike a b i 0) ∧ s23 = .int .i64 i) (fun _ _ s23 => a.length - (intOf s23).toNat)
      case atStart => exact ⟨0, Nat.zero_le _, rfl, rfl, rfl⟩
      case round =>
        obtain ⟨i, hi, rfl, rfl, rfl⟩ := hrel
        by_cases hli : i < a.length
        · have i0 : (i : Int) < (a.length : Int) := by omega
          obtain ⟨ad, rfl, _, c0⟩ := HS.out.dk hli
          have HI := Lib.hid (And.intro hi hli)
          obtain ⟨x, hx⟩ : ∃ x, x = dk a i := ⟨_, rfl⟩
          rw [← hx] at c0
          have HX := Lib.hid hx
          have ui : Hid (wrap64 ((i : Int) + 1) = ((i + 1 : Nat) : Int)) := by have := HM.out; exact dk64 (by omega)
          clear hi hli hx
          go_wp2_with fail
          go_loop [7, 8, 30] (fun s7 s8 s30 => ∃ j : Nat, j ≤ b.length ∧ s7 = .int .i64 (acc hUp a b i j) ∧ s8 = .int .i64 (acc hLike a b i j) ∧ s30 = .int .i64 j) (fun _ _ s30 => b.length - (intOf s30).toNat)
          case atStart => exact ⟨0, Nat.zero_le _, rfl, rfl, rfl⟩
          case round =>
            obtain ⟨j, hk, rfl, rfl, rfl⟩ := hrel
            by_cases hlt : j < b.length
            · have i1 : (j : Int) < (b.length : Int) := by omega
              obtain ⟨ae, rfl, _, c1⟩ := HT.out.dk hlt
              have HK := Lib.hid (And.intro hk hlt)
              have uk : Hid (wrap64 ((j : Int) + 1) = ((j + 1 : Nat) : Int)) := by have := HN.out; exact dk64 (by omega)
              have hij : i < 200 ∧ j < 200 := by have := HOK.out.len; have := HOK2.out.len; have := HI.out; omega
              have h1 := acc_b HOK.out HOK2.out hUp i j (by omega) (by omega)
              have h2 := acc_b HOK.out HOK2.out hLike i j (by omega) (by omega)
              have hp := prod_b HOK.out HOK2.out i j
              obtain ⟨y, hy⟩ : ∃ y, y = dk b j := ⟨_, rfl⟩
              obtain ⟨p, hpp⟩ : ∃ p, p = dk a i * dk b j := ⟨_, rfl⟩
              obtain ⟨U1, hU1⟩ : ∃ U1, U1 = acc hUp a b i j := ⟨_, rfl⟩
              obtain ⟨L1, hL1⟩ : ∃ L1, L1 = acc hLike a b i j := ⟨_, rfl⟩
              rw [← hU1] at h1 ⊢
              rw [← hL1] at h2 ⊢
              rw [← hpp] at hp
              have hxy : x * y = p := by rw [hpp, HX.out, hy]
              rw [← hy] at c1
              obtain ⟨V, hV⟩ : ∃ V, V = U1 + p := ⟨_, rfl⟩
              obtain ⟨T, hT⟩ : ∃ T, T = L1 + p := ⟨_, rfl⟩
              have f1 : x * y = p := hxy
              have f2 : U1 + p = V := hV.symm
              have f3 : L1 + p = T := hT.symm
              have w1 : wrap64 p = p := dw64 (by omega) (by omega)
              have w2 : wrap64 V = V := dw64 (by omega) (by omega)
              have w3 : wrap64 T = T := dw64 (by omega) (by omega)
              have W2 := Lib.hid w2
              have W3 := Lib.hid w3
              have hcase : j < i ∨ i = j ∨ i < j := by omega
              clear h1 h2 hy hxy
              rcases hcase with hcase | hcase | hcase
              · have b1 : decide ((j : Int) < (i : Int)) = true := decide_eq_true (by omega)
                have b2 : decide (j < i) = true := decide_eq_true (by omega)
                have b3 : ((i : Int) == (j : Int)) = false := by simp; omega
                have b4 : (i == j) = false := by simp; omega
                have e3 : Hid (acc hUp a b i (j + 1) = V) := by unfold Hid; rw [acc_step, ← hU1]; unfold hUp; rw [if_pos (by simp; omega), ← hpp]; omega
                have e4 : Hid (acc hLike a b i (j + 1) = L1) := by unfold Hid; rw [acc_step, ← hL1]; unfold hLike; rw [if_neg (by simp; omega)]; omega
                clear hcase hU1 hL1 hp hk hlt hij hpp hV hT
                go_wp2_with fail
                go_round
                case rel => exact ⟨j + 1, HK.out.2, (by rw [e3.out] <;> first | rfl | rw [W2.out]), (by rw [e4.out] <;> first | rfl | rw [W3.out]), by first | rfl | rw [uk.out]⟩
                case measure => (try rw [uk.out]); have := HK.out; clear f1 f2 f3 w1 w2 w3; simp [intOf]; omega
              · have b1 : decide ((j : Int) < (i : Int)) = false := decide_eq_false (by omega)
                have b2 : decide (j < i) = false := decide_eq_false (by omega)
                have b3 : ((i : Int) == (j : Int)) = true := by simp; omega
                have b4 : (i == j) = true := by simp; omega
                have e3 : Hid (acc hUp a b i (j + 1) = U1) := by unfold Hid; rw [acc_step, ← hU1]; unfold hUp; rw [if_neg (by simp; omega)]; omega
                have e4 : Hid (acc hLike a b i (j + 1) = T) := by unfold Hid; rw [acc_step, ← hL1]; unfold hLike; rw [if_pos (by simp; omega), ← hpp]; omega
                clear hcase hU1 hL1 hp hk hlt hij hpp hV hT
                go_wp2_with fail
                go_round
                case rel => exact ⟨j + 1, HK.out.2, (by rw [e3.out] <;> first | rfl | rw [W2.out]), (by rw [e4.out] <;> first | rfl | rw [W3.out]), by first | rfl | rw [uk.out]⟩
                case measure => (try rw [uk.out]); have := HK.out; clear f1 f2 f3 w1 w2 w3; simp [intOf]; omega
              · have b1 : decide ((j : Int) < (i : Int)) = false := decide_eq_false (by omega)
                have b2 : decide (j < i) = false := decide_eq_false (by omega)
                have b3 : ((i : Int) == (j : Int)) = false := by simp; omega
                have b4 : (i == j) = false := by simp; omega
                have e3 : Hid (acc hUp a b i (j + 1) = U1) := by unfold Hid; rw [acc_step, ← hU1]; unfold hUp; rw [if_neg (by simp; omega)]; omega
                have e4 : Hid (acc hLike a b i (j + 1) = L1) := by unfold Hid; rw [acc_step, ← hL1]; unfold hLike; rw [if_neg (by simp; omega)]; omega
                clear hcase hU1 hL1 hp hk hlt hij hpp hV hT
                go_wp2_with fail
                go_round
                case rel => exact ⟨j + 1, HK.out.2, (by rw [e3.out] <;> first | rfl | rw [W2.out]), (by rw [e4.out] <;> first | rfl | rw [W3.out]), by first | rfl | rw [uk.out]⟩
                case measure => (try rw [uk.out]); have := HK.out; clear f1 f2 f3 w1 w2 w3; simp [intOf]; omega
            · obtain rfl : j = b.length := by omega
              have e3 : Hid (acc hUp a b (i + 1) 0 = acc hUp a b i b.length) := acc_row _ _ _ _
              have e4 : Hid (acc hLike a b (i + 1) 0 = acc hLike a b i b.length) := acc_row _ _ _ _
              go_wp2_with fail
              go_round
              case rel => exact ⟨i + 1, HI.out.2, by rw [e3.out], by rw [e4.out], by first | rfl | rw [ui.out]⟩
              case measure => (try rw [ui.out]); have := HI.out; simp [intOf]; omega
        · obtain rfl : i = a.length := by omega
          go_wp2_with fail
          go_ret3
          exact ⟨by rw [HF.out]; rfl, rfl⟩
    · have HQ2 := Lib.hid (dokF hqb)
      have HF : Hid (beatsR a b = (0, 0, 1)) := by unfold Hid beatsR; rw [if_pos (.inr (dokF hqb))]
      clear hqa hqb
      go_enter Try.func72, Try.ntmps72
      go_wp2_with fail
      refine (dright_any A a c _ HS.out HM.out).mono ?_
      rintro e w1 ⟨rfl, rfl⟩
      rw [HQ.out]
      go_wp2_with fail
      refine (dright_any B b d _ HT.out HN.out).mono ?_
      rintro e w1 ⟨rfl, rfl⟩
      rw [HQ2.out]
      go_wp2_with fail
      go_ret3
      exact ⟨by rw [HF.out]; rfl, rfl⟩
  · have HQ := Lib.hid (dokF hqa)
    have HF : Hid (beatsR a b = (0, 0, 1)) := by unfold Hid beatsR; rw [if_pos (.inl (dokF hqa))]
    clear hqa
    go_enter Try.func72, Try.ntmps72
    go_wp2_with fail
    refine (dright_any A a c _ HS.out HM.out).mono ?_
    rintro e w1 ⟨rfl, rfl⟩
    rw [HQ.out]
    go_wp2_with fail
    go_ret3
    exact ⟨by rw [HF.out]; rfl, rfl⟩
end Go.Proofs.Ytaehehoeidnidaa
