/- EvenTurns: the law's function, walked. No condition. -/
import Derived.Test.YtmcbkjepjijfjaaEvF
namespace Go.Proofs.Ytmcbkjepjijfjaa
open Go.ChangeShapes Go.WideShapes Go.ChangeAt Go.RowKit
set_option linter.unusedVariables false

abbrev lawEv (b d b2 d2 n m : Int) (w : World) : Prop :=
  Calls Try.prog 7 #[.int .i64 b, .int .i64 d, .int .i64 b2, .int .i64 d2, .int .i64 n, .int .i64 m] w fun e w' => e = .returned (.bool true) ∧ Below w.heap.size w w'
def yl (b d k : Nat) : List Int := (List.range k).map fun i => (trn b i d : Int)
theorem yl_succ (b d k : Nat) : yl b d (k + 1) = yl b d k ++ [(trn b k d : Int)] := by
  unfold yl; rw [List.range_succ, List.map_append]; rfl
theorem yl_len (b d k : Nat) : (yl b d k).length = k := by simp [yl]
theorem yl_get (b d k i : Nat) (h : i < (yl b d k).length) : (yl b d k)[i] = (trn b i d : Int) := by simp [yl]
abbrev AllIs (b d p e : Int) : Prop := ∀ w, Calls Try.prog 37 #[.int .i64 b, .int .i64 d] w fun r w' => r = .returned (.tuple #[.int .i64 p, .int .i64 e]) ∧ w = w'
abbrev YAllIs (b d p e : Int) : Prop := ∀ w, Calls Try.prog 38 #[.int .i64 b, .int .i64 d] w fun r w' => r = .returned (.tuple #[.int .i64 p, .int .i64 e]) ∧ w = w'
abbrev TurnIs (b d n x e : Int) : Prop := ∀ w, Calls Try.prog 39 #[.int .i64 b, .int .i64 d, .int .i64 n] w fun r w' => r = .returned (.tuple #[.int .i64 x, .int .i64 e]) ∧ w = w'
abbrev YTurnIs (b d n x : Int) : Prop := ∀ w, Calls Try.prog 42 #[.int .i64 b, .int .i64 d, .int .i64 n] w fun r w' => r = .returned (.int .i64 x) ∧ w = w'
abbrev PairIs (a i b j n x y e : Int) : Prop := ∀ w, Calls Try.prog 40 #[.int .i64 a, .int .i64 i, .int .i64 b, .int .i64 j, .int .i64 n] w fun r w' => r = .returned (.tuple #[.int .i64 x, .int .i64 y, .int .i64 e]) ∧ w = w'
abbrev FarIs (b d n x e : Int) : Prop := ∀ w, Calls Try.prog 41 #[.int .i64 b, .int .i64 d, .int .i64 n] w fun r w' => r = .returned (.tuple #[.int .i64 x, .int .i64 e]) ∧ Below w.heap.size w w'
set_option maxRecDepth 20000 in
set_option maxHeartbeats 4000000 in
theorem ev_err (b d b2 d2 n m f y1 y2 : Int) (w : World) (hf : f ≠ 0) (ha : AllIs b d 0 f) (hy : YAllIs b d 0 f) (ht : TurnIs b d n 0 f) (hp : PairIs b d b2 d2 n 0 0 f) (hf_ : FarIs b d m 0 f) (hz : YAllIs b2 d2 y1 y2) : lawEv b d b2 d2 n m w := by
  have d1 : (f != 0) = true := by simpa using hf
  have HF := Lib.hid hf_
  clear hf_ hf
  have HA := Lib.hid ha
  have HY := Lib.hid hy
  have HT := Lib.hid ht
  have HP := Lib.hid hp
  have HZ := Lib.hid hz
  clear ha hy ht hp hz
  go_enter Try.func7, Try.ntmps7
  go_wp2_with fail
  refine (HA.out _).mono ?_
  rintro r w' ⟨rfl, rfl⟩
  go_wp2_with fail
  refine (HY.out _).mono ?_
  rintro r w' ⟨rfl, rfl⟩
  go_wp2_with fail
  refine (HT.out _).mono ?_
  rintro r w' ⟨rfl, rfl⟩
  go_wp2_with fail
  refine (HP.out _).mono ?_
  rintro r w' ⟨rfl, rfl⟩
  go_wp2_with fail
  refine (HF.out _).mono ?_
  rintro r w1 ⟨rfl, hb1⟩
  have HB1 := Lib.hid hb1
  clear hb1
  go_wp2_with fail
  refine (HZ.out _).mono ?_
  rintro r w' ⟨rfl, rfl⟩
  go_wp2_with fail
  go_ret
  exact ⟨rfl, HB1.out⟩
set_option maxRecDepth 20000 in
set_option maxHeartbeats 4000000 in
theorem ev_n1 (b d b2 d2 n m x y y1 y2 : Int) (P : Nat) (w : World) (hp0 : P ≤ 1073741824) (ha : AllIs b d P 0) (hy : YAllIs b d P 0) (hz : YAllIs b2 d2 y1 y2) (hn : n < 0) (ht : TurnIs b d n 0 2) (hp : PairIs b d b2 d2 n 0 0 2) (hf : FarIs b d m 0 2) (hm : m < 0) : lawEv b d b2 d2 n m w := by
  have hP0 : (P : Int) ≤ 1073741824 := by omega
  have HA := Lib.hid ha
  have HY := Lib.hid hy
  have HZ := Lib.hid hz
  clear ha hy hz
  have HT := Lib.hid ht
  have HP := Lib.hid hp
  clear ht hp
  have HF := Lib.hid hf
  clear hf
  go_enter Try.func7, Try.ntmps7
  go_wp2_with fail
  refine (HA.out _).mono ?_
  rintro r w' ⟨rfl, rfl⟩
  go_wp2_with fail
  refine (HY.out _).mono ?_
  rintro r w' ⟨rfl, rfl⟩
  go_wp2_with fail
  refine (HT.out _).mono ?_
  rintro r w' ⟨rfl, rfl⟩
  go_wp2_with fail
  refine (HP.out _).mono ?_
  rintro r w' ⟨rfl, rfl⟩
  go_wp2_with fail
  refine (HF.out _).mono ?_
  rintro r w1 ⟨rfl, hb1⟩
  have HB1 := Lib.hid hb1
  clear hb1
  go_wp2_with fail
  refine (HZ.out _).mono ?_
  rintro r w' ⟨rfl, rfl⟩
  go_wp2_with fail
  go_ret
  exact ⟨rfl, HB1.out⟩
set_option maxRecDepth 20000 in
set_option maxHeartbeats 4000000 in
theorem ev_n2 (b d b2 d2 n m x y y1 y2 : Int) (P : Nat) (w : World) (hp0 : P ≤ 1073741824) (ha : AllIs b d P 0) (hy : YAllIs b d P 0) (hz : YAllIs b2 d2 y1 y2) (hn : n < 0) (ht : TurnIs b d n 0 2) (hp : PairIs b d b2 d2 n 0 0 2) (hf : FarIs b d m 0 2) (hm0 : ¬ m < 0) (hm : 400 < m) : lawEv b d b2 d2 n m w := by
  have hP0 : (P : Int) ≤ 1073741824 := by omega
  have HA := Lib.hid ha
  have HY := Lib.hid hy
  have HZ := Lib.hid hz
  clear ha hy hz
  have HT := Lib.hid ht
  have HP := Lib.hid hp
  clear ht hp
  have HF := Lib.hid hf
  clear hf
  go_enter Try.func7, Try.ntmps7
  go_wp2_with fail
  refine (HA.out _).mono ?_
  rintro r w' ⟨rfl, rfl⟩
  go_wp2_with fail
  refine (HY.out _).mono ?_
  rintro r w' ⟨rfl, rfl⟩
  go_wp2_with fail
  refine (HT.out _).mono ?_
  rintro r w' ⟨rfl, rfl⟩
  go_wp2_with fail
  refine (HP.out _).mono ?_
  rintro r w' ⟨rfl, rfl⟩
  go_wp2_with fail
  refine (HF.out _).mono ?_
  rintro r w1 ⟨rfl, hb1⟩
  have HB1 := Lib.hid hb1
  clear hb1
  go_wp2_with fail
  refine (HZ.out _).mono ?_
  rintro r w' ⟨rfl, rfl⟩
  go_wp2_with fail
  go_ret
  exact ⟨rfl, HB1.out⟩
set_option maxRecDepth 20000 in
set_option maxHeartbeats 4000000 in
theorem ev_n3 (b d b2 d2 n m x y y1 y2 : Int) (P : Nat) (w : World) (hp0 : P ≤ 1073741824) (ha : AllIs b d P 0) (hy : YAllIs b d P 0) (hz : YAllIs b2 d2 y1 y2) (hn : n < 0) (ht : TurnIs b d n 0 2) (hp : PairIs b d b2 d2 n 0 0 2) (hf : FarIs b d m 0 2) (hm0 : ¬ m < 0) (hm1 : ¬ 400 < m) (hm : 4096 < P) : lawEv b d b2 d2 n m w := by
  have hP0 : (P : Int) ≤ 1073741824 := by omega
  have HA := Lib.hid ha
  have HY := Lib.hid hy
  have HZ := Lib.hid hz
  clear ha hy hz
  have HT := Lib.hid ht
  have HP := Lib.hid hp
  clear ht hp
  have HF := Lib.hid hf
  clear hf
  have hp5 : (4096 : Int) < (P : Int) := by omega
  go_enter Try.func7, Try.ntmps7
  go_wp2_with fail
  refine (HA.out _).mono ?_
  rintro r w' ⟨rfl, rfl⟩
  go_wp2_with fail
  refine (HY.out _).mono ?_
  rintro r w' ⟨rfl, rfl⟩
  go_wp2_with fail
  refine (HT.out _).mono ?_
  rintro r w' ⟨rfl, rfl⟩
  go_wp2_with fail
  refine (HP.out _).mono ?_
  rintro r w' ⟨rfl, rfl⟩
  go_wp2_with fail
  refine (HF.out _).mono ?_
  rintro r w1 ⟨rfl, hb1⟩
  have HB1 := Lib.hid hb1
  clear hb1
  go_wp2_with fail
  refine (HZ.out _).mono ?_
  rintro r w' ⟨rfl, rfl⟩
  go_wp2_with fail
  go_ret
  exact ⟨rfl, HB1.out⟩
set_option maxRecDepth 20000 in
set_option maxHeartbeats 4000000 in
theorem ev_n4 (b d b2 d2 n x y y1 y2 : Int) (B D M_ P : Nat) (w : World) (hp0 : P ≤ 1073741824) (ha : AllIs b d P 0) (hy : YAllIs b d P 0) (hz : YAllIs b2 d2 y1 y2) (hn : n < 0) (ht : TurnIs b d n 0 2) (hp : PairIs b d b2 d2 n 0 0 2) (hP : Hid (B ^ D = P)) (hf : FarIs b d M_ (mst B D M_ P) 0) (hk : ∀ k : Nat, k ≤ 400 → YTurnIs b d k (trn B k D : Nat)) (hm4 : M_ ≤ 400) (hp4 : P ≤ 4096) : lawEv b d b2 d2 n M_ w := by
  have hP0 : (P : Int) ≤ 1073741824 := by omega
  have HA := Lib.hid ha
  have HY := Lib.hid hy
  have HZ := Lib.hid hz
  clear ha hy hz
  have HT := Lib.hid ht
  have HP := Lib.hid hp
  clear ht hp
  have HF := Lib.hid hf
  have HK := Lib.hid hk
  clear hf hk
  have i5 : ¬ (400 : Int) < (M_ : Int) := by omega
  have i6 : ¬ 400 < M_ := by omega
  have i7 : ¬ (4096 : Int) < (P : Int) := by omega
  have i8 : ¬ 4096 < P := by omega
  go_enter Try.func7, Try.ntmps7
  go_wp2_with fail
  refine (HA.out _).mono ?_
  rintro r w' ⟨rfl, rfl⟩
  go_wp2_with fail
  refine (HY.out _).mono ?_
  rintro r w' ⟨rfl, rfl⟩
  go_wp2_with fail
  refine (HT.out _).mono ?_
  rintro r w' ⟨rfl, rfl⟩
  go_wp2_with fail
  refine (HP.out _).mono ?_
  rintro r w' ⟨rfl, rfl⟩
  go_wp2_with fail
  refine (HF.out _).mono ?_
  rintro r w1 ⟨rfl, hb1⟩
  have HB1 := Lib.hid hb1
  clear hb1
  go_wp2_with fail
  refine (HZ.out _).mono ?_
  rintro r w' ⟨rfl, rfl⟩
  go_wp2_with fail
  clear i5 i6 i7 i8
  have HBS := Lib.hid HB1.out.size
  go_loopw [27, 194] (fun s27 s194 wr => ∃ k : Nat, k ≤ M_ ∧ s194 = .int .i64 k ∧ Own wr w1.heap.size 3 s27 ((yl B D k).map (.int .i64)) ∧ Below w1.heap.size w1 wr) (fun _ s194 _ => M_ - (intOf s194).toNat)
  case atStart => exact ⟨0, Nat.zero_le _, rfl, Own.none_, Below.refl _ _⟩
  case round =>
    obtain ⟨k, hk, rfl, hown, hbel⟩ := hrel
    have HOW := Lib.hid hown
    have HB := Lib.hid hbel
    have HSZ := Lib.hid hbel.size
    clear hown hbel
    have hol := yl_len B D k
    by_cases hlt : k < M_
    · have i1 : (k : Int) < (M_ : Int) := by omega
      have HYS := Lib.hid (yl_succ B D k)
      have HYK := Lib.hid (HK.out k (by omega))
      generalize (trn B k D : Int) = t at *
      go_wp2_with fail
      refine (HYK.out _).mono ?_
      rintro r w' ⟨rfl, rfl⟩
      go_wp2_with (first
        | (at_builtin; go_must (refine wpList_push _ rfl _ _ 22 3 8 elem_ints rfl w1.heap.size _ _ rfl (Own.alloc' HOW.out _) (.int .i64 t) ⟨wr.heap.size, 0, none⟩ 1 rfl (cell_new1 _ _ _) rfl (by rw [List.length_map]; omega) (by rw [List.length_map]; unfold maxLen; omega) (by simp; exact Nat.le_succ_of_le HSZ.out) ?_); intro v3 w3 hown3 hbel3; have HO3 := Lib.hid hown3; have HB3 := Lib.hid hbel3; clear hown3 hbel3)
        | fail)
      go_roundw
      case rel =>
        refine ⟨k + 1, by omega, by go_num, ?_, (HB.out.alloc HSZ.out _).trans HB3.out⟩
        have h := HO3.out
        rw [HYS.out, List.map_append]; exact h
      case measure => simp [intOf]; omega
    · have i1 : ¬ (k : Int) < (M_ : Int) := by omega
      have hke : k = M_ := by omega
      subst hke
      obtain ⟨A3, c3, rfl, hc3, hsg⟩ := HOW.out.res
      have HSG := Lib.hid hsg
      clear hsg hc3
      rw [List.length_map, hol]
      go_wp2_with fail
      go_loop [26, 29] (fun s26 s29 => ∃ p : Nat, p ≤ P ∧ s29 = .int .i64 ((p : Int) + 1) ∧ s26 = .int .i64 (mst B D k p)) (fun _ s29 => P + 1 - (intOf s29).toNat)
      case atStart => exact ⟨0, Nat.zero_le _, rfl, rfl⟩
      case round =>
        obtain ⟨p, hp_, rfl, rfl⟩ := hrel
        by_cases hlt2 : p < P
        · have i2 : (p : Int) + 1 ≤ (P : Int) := by omega
          go_wp2_with fail
          go_loop [30, 212] (fun s30 s212 => ∃ j : Nat, j ≤ k ∧ s212 = .int .i64 j ∧ s30 = .int .i64 (bel B D j (p + 1) : Nat)) (fun _ s212 => k - (intOf s212).toNat)
          case atStart => exact ⟨0, Nat.zero_le _, rfl, rfl⟩
          case round =>
            obtain ⟨j, hj, rfl, rfl⟩ := hrel
            by_cases hlt3 : j < k
            · have i3 : (j : Int) < (k : Int) := by omega
              obtain ⟨ad, rfl, _, hc⟩ := HSG.out.int (show j < (yl B D k).length by rw [yl_len]; exact hlt3)
              rw [yl_get] at hc
              have hble := bel_le B D j (p + 1)
              have HBJ : Hid (bel B D (j + 1) (p + 1) = bel B D j (p + 1) + if trn B j D < p + 1 then 1 else 0) := rfl
              generalize bel B D j (p + 1) = l at *
              by_cases hq : trn B j D < p + 1
              · have HBV : Hid (bel B D (j + 1) (p + 1) = l + 1) := by unfold Hid; rw [HBJ.out, if_pos hq]
                generalize trn B j D = t at *
                have i4 : (t : Int) < (p : Int) + 1 := by omega
                go_wp2_with fail
                go_round
                case rel => exact ⟨j + 1, by omega, by go_num, by rw [HBV.out]; try go_num⟩
                case measure => simp [intOf]; omega
              · have HBV : Hid (bel B D (j + 1) (p + 1) = l) := by unfold Hid; rw [HBJ.out, if_neg hq, Nat.add_zero]
                generalize trn B j D = t at *
                have i4 : ¬ (t : Int) < (p : Int) + 1 := by omega
                go_wp2_with fail
                go_round
                case rel => exact ⟨j + 1, by omega, by go_num, by rw [HBV.out]⟩
                case measure => simp [intOf]; omega
            · have i3 : ¬ (j : Int) < (k : Int) := by omega
              have hje : j = k := by omega
              subst hje
              have hM := mst_bd (b := B) (d := D) (m := j) (k := p) hm4 (by rw [hP.out]; exact hp4) (by omega)
              have hD := dst_bd (b := B) (d := D) (m := j) (x := p + 1) hm4 (by rw [hP.out]; exact hp4) (by omega)
              have HM : Hid (mst B D j (p + 1) = max3 (mst B D j p) (dst B D j (p + 1))) := rfl
              have hDv : (bel B D j (p + 1) : Int) * (P : Int) - (j : Int) * ((p : Int) + 1) = dst B D j (p + 1) := by unfold dst; rw [hP.out]; rfl
              rw [hP.out] at hD
              generalize dst B D j (p + 1) = D_ at *
              generalize mst B D j p = M at *
              generalize bel B D j (p + 1) = l2 at *
              obtain ⟨X, hX⟩ : ∃ X : Int, (l2 : Int) * (P : Int) = X := ⟨_, rfl⟩
              obtain ⟨Y, hY⟩ : ∃ Y : Int, (j : Int) * ((p : Int) + 1) = Y := ⟨_, rfl⟩
              rw [hX, hY] at hDv
              have hXb : 0 ≤ X ∧ X ≤ 1638400 := by rw [← hX]; exact ⟨hD.2.2.2.1, hD.2.2.1⟩
              have hYb : 0 ≤ Y ∧ Y ≤ 1638400 := by rw [← hY]; exact ⟨hD.2.2.2.2.2, hD.2.2.2.2.1⟩
              have hDn : Y - X = -D_ := by omega
              have hD1 := hD.1
              have hD2 := hD.2.1
              clear hD
              refine max_cases (M := M) (D := D_) (fun q1 q2 => ?_) (fun q1 q2 => ?_) (fun q1 q2 => ?_) (fun q1 q2 => ?_)
              · have HMX : Hid (max3 M D_ = -D_) := by unfold Hid max3; rw [if_pos q1, if_pos q2]
                go_wp2_with fail
                go_round
                case rel => exact ⟨p + 1, by omega, by go_num, by rw [HM.out, HMX.out]; try go_num⟩
                case measure => simp [intOf]; omega
              · have HMX : Hid (max3 M D_ = D_) := by unfold Hid max3; rw [if_pos q1, if_neg q2]
                go_wp2_with fail
                go_round
                case rel => exact ⟨p + 1, by omega, by go_num, by rw [HM.out, HMX.out]; try go_num⟩
                case measure => simp [intOf]; omega
              · have HMX : Hid (max3 M D_ = -D_) := by unfold Hid max3; rw [if_neg q1, if_pos q2]
                go_wp2_with fail
                go_round
                case rel => exact ⟨p + 1, by omega, by go_num, by rw [HM.out, HMX.out]; try go_num⟩
                case measure => simp [intOf]; omega
              · have HMX : Hid (max3 M D_ = M) := by unfold Hid max3; rw [if_neg q1, if_neg q2]
                go_wp2_with fail
                go_round
                case rel => exact ⟨p + 1, by omega, by go_num, by rw [HM.out, HMX.out]; try go_num⟩
                case measure => simp [intOf]; omega
        · have i2 : ¬ (p : Int) + 1 ≤ (P : Int) := by omega
          have HPP : Hid (p = P) := by unfold Hid; omega
          rw [HPP.out]
          go_wp2_with fail
          go_ret
          exact ⟨rfl, HB1.out.trans (HB.out.mono HB1.out.size)⟩
set_option maxRecDepth 20000 in
set_option maxHeartbeats 4000000 in
theorem ev_b1 (b d b2 d2 n m x y y1 y2 : Int) (P : Nat) (w : World) (hp0 : P ≤ 1073741824) (ha : AllIs b d P 0) (hy : YAllIs b d P 0) (hz : YAllIs b2 d2 y1 y2) (hn : ¬ n < 0) (ht : TurnIs b d n x 0) (hp : PairIs b d b2 d2 n 0 0 y2) (hy2 : y2 ≠ 0) (hu : YTurnIs b d n x) (hf : FarIs b d m 0 2) (hm : m < 0) : lawEv b d b2 d2 n m w := by
  have hP0 : (P : Int) ≤ 1073741824 := by omega
  have HA := Lib.hid ha
  have HY := Lib.hid hy
  have HZ := Lib.hid hz
  clear ha hy hz
  have d1 : (y2 != 0) = true := by simpa using hy2
  clear hy2
  have HT := Lib.hid ht
  have HP := Lib.hid hp
  have HU := Lib.hid hu
  clear ht hp hu
  have HF := Lib.hid hf
  clear hf
  go_enter Try.func7, Try.ntmps7
  go_wp2_with fail
  refine (HA.out _).mono ?_
  rintro r w' ⟨rfl, rfl⟩
  go_wp2_with fail
  refine (HY.out _).mono ?_
  rintro r w' ⟨rfl, rfl⟩
  go_wp2_with fail
  refine (HT.out _).mono ?_
  rintro r w' ⟨rfl, rfl⟩
  go_wp2_with fail
  refine (HP.out _).mono ?_
  rintro r w' ⟨rfl, rfl⟩
  go_wp2_with fail
  refine (HF.out _).mono ?_
  rintro r w1 ⟨rfl, hb1⟩
  have HB1 := Lib.hid hb1
  clear hb1
  go_wp2_with fail
  refine (HZ.out _).mono ?_
  rintro r w' ⟨rfl, rfl⟩
  go_wp2_with fail
  refine (HU.out _).mono ?_
  rintro r w' ⟨rfl, rfl⟩
  go_wp2_with fail
  go_ret
  exact ⟨rfl, HB1.out⟩
set_option maxRecDepth 20000 in
set_option maxHeartbeats 4000000 in
theorem ev_b2 (b d b2 d2 n m x y y1 y2 : Int) (P : Nat) (w : World) (hp0 : P ≤ 1073741824) (ha : AllIs b d P 0) (hy : YAllIs b d P 0) (hz : YAllIs b2 d2 y1 y2) (hn : ¬ n < 0) (ht : TurnIs b d n x 0) (hp : PairIs b d b2 d2 n 0 0 y2) (hy2 : y2 ≠ 0) (hu : YTurnIs b d n x) (hf : FarIs b d m 0 2) (hm0 : ¬ m < 0) (hm : 400 < m) : lawEv b d b2 d2 n m w := by
  have hP0 : (P : Int) ≤ 1073741824 := by omega
  have HA := Lib.hid ha
  have HY := Lib.hid hy
  have HZ := Lib.hid hz
  clear ha hy hz
  have d1 : (y2 != 0) = true := by simpa using hy2
  clear hy2
  have HT := Lib.hid ht
  have HP := Lib.hid hp
  have HU := Lib.hid hu
  clear ht hp hu
  have HF := Lib.hid hf
  clear hf
  go_enter Try.func7, Try.ntmps7
  go_wp2_with fail
  refine (HA.out _).mono ?_
  rintro r w' ⟨rfl, rfl⟩
  go_wp2_with fail
  refine (HY.out _).mono ?_
  rintro r w' ⟨rfl, rfl⟩
  go_wp2_with fail
  refine (HT.out _).mono ?_
  rintro r w' ⟨rfl, rfl⟩
  go_wp2_with fail
  refine (HP.out _).mono ?_
  rintro r w' ⟨rfl, rfl⟩
  go_wp2_with fail
  refine (HF.out _).mono ?_
  rintro r w1 ⟨rfl, hb1⟩
  have HB1 := Lib.hid hb1
  clear hb1
  go_wp2_with fail
  refine (HZ.out _).mono ?_
  rintro r w' ⟨rfl, rfl⟩
  go_wp2_with fail
  refine (HU.out _).mono ?_
  rintro r w' ⟨rfl, rfl⟩
  go_wp2_with fail
  go_ret
  exact ⟨rfl, HB1.out⟩
set_option maxRecDepth 20000 in
set_option maxHeartbeats 4000000 in
theorem ev_b3 (b d b2 d2 n m x y y1 y2 : Int) (P : Nat) (w : World) (hp0 : P ≤ 1073741824) (ha : AllIs b d P 0) (hy : YAllIs b d P 0) (hz : YAllIs b2 d2 y1 y2) (hn : ¬ n < 0) (ht : TurnIs b d n x 0) (hp : PairIs b d b2 d2 n 0 0 y2) (hy2 : y2 ≠ 0) (hu : YTurnIs b d n x) (hf : FarIs b d m 0 2) (hm0 : ¬ m < 0) (hm1 : ¬ 400 < m) (hm : 4096 < P) : lawEv b d b2 d2 n m w := by
  have hP0 : (P : Int) ≤ 1073741824 := by omega
  have HA := Lib.hid ha
  have HY := Lib.hid hy
  have HZ := Lib.hid hz
  clear ha hy hz
  have d1 : (y2 != 0) = true := by simpa using hy2
  clear hy2
  have HT := Lib.hid ht
  have HP := Lib.hid hp
  have HU := Lib.hid hu
  clear ht hp hu
  have HF := Lib.hid hf
  clear hf
  have hp5 : (4096 : Int) < (P : Int) := by omega
  go_enter Try.func7, Try.ntmps7
  go_wp2_with fail
  refine (HA.out _).mono ?_
  rintro r w' ⟨rfl, rfl⟩
  go_wp2_with fail
  refine (HY.out _).mono ?_
  rintro r w' ⟨rfl, rfl⟩
  go_wp2_with fail
  refine (HT.out _).mono ?_
  rintro r w' ⟨rfl, rfl⟩
  go_wp2_with fail
  refine (HP.out _).mono ?_
  rintro r w' ⟨rfl, rfl⟩
  go_wp2_with fail
  refine (HF.out _).mono ?_
  rintro r w1 ⟨rfl, hb1⟩
  have HB1 := Lib.hid hb1
  clear hb1
  go_wp2_with fail
  refine (HZ.out _).mono ?_
  rintro r w' ⟨rfl, rfl⟩
  go_wp2_with fail
  refine (HU.out _).mono ?_
  rintro r w' ⟨rfl, rfl⟩
  go_wp2_with fail
  go_ret
  exact ⟨rfl, HB1.out⟩
set_option maxRecDepth 20000 in
set_option maxHeartbeats 4000000 in
theorem ev_b4 (b d b2 d2 n x y y1 y2 : Int) (B D M_ P : Nat) (w : World) (hp0 : P ≤ 1073741824) (ha : AllIs b d P 0) (hy : YAllIs b d P 0) (hz : YAllIs b2 d2 y1 y2) (hn : ¬ n < 0) (ht : TurnIs b d n x 0) (hp : PairIs b d b2 d2 n 0 0 y2) (hy2 : y2 ≠ 0) (hu : YTurnIs b d n x) (hP : Hid (B ^ D = P)) (hf : FarIs b d M_ (mst B D M_ P) 0) (hk : ∀ k : Nat, k ≤ 400 → YTurnIs b d k (trn B k D : Nat)) (hm4 : M_ ≤ 400) (hp4 : P ≤ 4096) : lawEv b d b2 d2 n M_ w := by
  have hP0 : (P : Int) ≤ 1073741824 := by omega
  have HA := Lib.hid ha
  have HY := Lib.hid hy
  have HZ := Lib.hid hz
  clear ha hy hz
  have d1 : (y2 != 0) = true := by simpa using hy2
  clear hy2
  have HT := Lib.hid ht
  have HP := Lib.hid hp
  have HU := Lib.hid hu
  clear ht hp hu
  have HF := Lib.hid hf
  have HK := Lib.hid hk
  clear hf hk
  have i5 : ¬ (400 : Int) < (M_ : Int) := by omega
  have i6 : ¬ 400 < M_ := by omega
  have i7 : ¬ (4096 : Int) < (P : Int) := by omega
  have i8 : ¬ 4096 < P := by omega
  go_enter Try.func7, Try.ntmps7
  go_wp2_with fail
  refine (HA.out _).mono ?_
  rintro r w' ⟨rfl, rfl⟩
  go_wp2_with fail
  refine (HY.out _).mono ?_
  rintro r w' ⟨rfl, rfl⟩
  go_wp2_with fail
  refine (HT.out _).mono ?_
  rintro r w' ⟨rfl, rfl⟩
  go_wp2_with fail
  refine (HP.out _).mono ?_
  rintro r w' ⟨rfl, rfl⟩
  go_wp2_with fail
  refine (HF.out _).mono ?_
  rintro r w1 ⟨rfl, hb1⟩
  have HB1 := Lib.hid hb1
  clear hb1
  go_wp2_with fail
  refine (HZ.out _).mono ?_
  rintro r w' ⟨rfl, rfl⟩
  go_wp2_with fail
  refine (HU.out _).mono ?_
  rintro r w' ⟨rfl, rfl⟩
  go_wp2_with fail
  clear i5 i6 i7 i8
  have HBS := Lib.hid HB1.out.size
  go_loopw [27, 194] (fun s27 s194 wr => ∃ k : Nat, k ≤ M_ ∧ s194 = .int .i64 k ∧ Own wr w1.heap.size 3 s27 ((yl B D k).map (.int .i64)) ∧ Below w1.heap.size w1 wr) (fun _ s194 _ => M_ - (intOf s194).toNat)
  case atStart => exact ⟨0, Nat.zero_le _, rfl, Own.none_, Below.refl _ _⟩
  case round =>
    obtain ⟨k, hk, rfl, hown, hbel⟩ := hrel
    have HOW := Lib.hid hown
    have HB := Lib.hid hbel
    have HSZ := Lib.hid hbel.size
    clear hown hbel
    have hol := yl_len B D k
    by_cases hlt : k < M_
    · have i1 : (k : Int) < (M_ : Int) := by omega
      have HYS := Lib.hid (yl_succ B D k)
      have HYK := Lib.hid (HK.out k (by omega))
      generalize (trn B k D : Int) = t at *
      go_wp2_with fail
      refine (HYK.out _).mono ?_
      rintro r w' ⟨rfl, rfl⟩
      go_wp2_with (first
        | (at_builtin; go_must (refine wpList_push _ rfl _ _ 22 3 8 elem_ints rfl w1.heap.size _ _ rfl (Own.alloc' HOW.out _) (.int .i64 t) ⟨wr.heap.size, 0, none⟩ 1 rfl (cell_new1 _ _ _) rfl (by rw [List.length_map]; omega) (by rw [List.length_map]; unfold maxLen; omega) (by simp; exact Nat.le_succ_of_le HSZ.out) ?_); intro v3 w3 hown3 hbel3; have HO3 := Lib.hid hown3; have HB3 := Lib.hid hbel3; clear hown3 hbel3)
        | fail)
      go_roundw
      case rel =>
        refine ⟨k + 1, by omega, by go_num, ?_, (HB.out.alloc HSZ.out _).trans HB3.out⟩
        have h := HO3.out
        rw [HYS.out, List.map_append]; exact h
      case measure => simp [intOf]; omega
    · have i1 : ¬ (k : Int) < (M_ : Int) := by omega
      have hke : k = M_ := by omega
      subst hke
      obtain ⟨A3, c3, rfl, hc3, hsg⟩ := HOW.out.res
      have HSG := Lib.hid hsg
      clear hsg hc3
      rw [List.length_map, hol]
      go_wp2_with fail
      go_loop [26, 29] (fun s26 s29 => ∃ p : Nat, p ≤ P ∧ s29 = .int .i64 ((p : Int) + 1) ∧ s26 = .int .i64 (mst B D k p)) (fun _ s29 => P + 1 - (intOf s29).toNat)
      case atStart => exact ⟨0, Nat.zero_le _, rfl, rfl⟩
      case round =>
        obtain ⟨p, hp_, rfl, rfl⟩ := hrel
        by_cases hlt2 : p < P
        · have i2 : (p : Int) + 1 ≤ (P : Int) := by omega
          go_wp2_with fail
          go_loop [30, 212] (fun s30 s212 => ∃ j : Nat, j ≤ k ∧ s212 = .int .i64 j ∧ s30 = .int .i64 (bel B D j (p + 1) : Nat)) (fun _ s212 => k - (intOf s212).toNat)
          case atStart => exact ⟨0, Nat.zero_le _, rfl, rfl⟩
          case round =>
            obtain ⟨j, hj, rfl, rfl⟩ := hrel
            by_cases hlt3 : j < k
            · have i3 : (j : Int) < (k : Int) := by omega
              obtain ⟨ad, rfl, _, hc⟩ := HSG.out.int (show j < (yl B D k).length by rw [yl_len]; exact hlt3)
              rw [yl_get] at hc
              have hble := bel_le B D j (p + 1)
              have HBJ : Hid (bel B D (j + 1) (p + 1) = bel B D j (p + 1) + if trn B j D < p + 1 then 1 else 0) := rfl
              generalize bel B D j (p + 1) = l at *
              by_cases hq : trn B j D < p + 1
              · have HBV : Hid (bel B D (j + 1) (p + 1) = l + 1) := by unfold Hid; rw [HBJ.out, if_pos hq]
                generalize trn B j D = t at *
                have i4 : (t : Int) < (p : Int) + 1 := by omega
                go_wp2_with fail
                go_round
                case rel => exact ⟨j + 1, by omega, by go_num, by rw [HBV.out]; try go_num⟩
                case measure => simp [intOf]; omega
              · have HBV : Hid (bel B D (j + 1) (p + 1) = l) := by unfold Hid; rw [HBJ.out, if_neg hq, Nat.add_zero]
                generalize trn B j D = t at *
                have i4 : ¬ (t : Int) < (p : Int) + 1 := by omega
                go_wp2_with fail
                go_round
                case rel => exact ⟨j + 1, by omega, by go_num, by rw [HBV.out]⟩
                case measure => simp [intOf]; omega
            · have i3 : ¬ (j : Int) < (k : Int) := by omega
              have hje : j = k := by omega
              subst hje
              have hM := mst_bd (b := B) (d := D) (m := j) (k := p) hm4 (by rw [hP.out]; exact hp4) (by omega)
              have hD := dst_bd (b := B) (d := D) (m := j) (x := p + 1) hm4 (by rw [hP.out]; exact hp4) (by omega)
              have HM : Hid (mst B D j (p + 1) = max3 (mst B D j p) (dst B D j (p + 1))) := rfl
              have hDv : (bel B D j (p + 1) : Int) * (P : Int) - (j : Int) * ((p : Int) + 1) = dst B D j (p + 1) := by unfold dst; rw [hP.out]; rfl
              rw [hP.out] at hD
              generalize dst B D j (p + 1) = D_ at *
              generalize mst B D j p = M at *
              generalize bel B D j (p + 1) = l2 at *
              obtain ⟨X, hX⟩ : ∃ X : Int, (l2 : Int) * (P : Int) = X := ⟨_, rfl⟩
              obtain ⟨Y, hY⟩ : ∃ Y : Int, (j : Int) * ((p : Int) + 1) = Y := ⟨_, rfl⟩
              rw [hX, hY] at hDv
              have hXb : 0 ≤ X ∧ X ≤ 1638400 := by rw [← hX]; exact ⟨hD.2.2.2.1, hD.2.2.1⟩
              have hYb : 0 ≤ Y ∧ Y ≤ 1638400 := by rw [← hY]; exact ⟨hD.2.2.2.2.2, hD.2.2.2.2.1⟩
              have hDn : Y - X = -D_ := by omega
              have hD1 := hD.1
              have hD2 := hD.2.1
              clear hD
              refine max_cases (M := M) (D := D_) (fun q1 q2 => ?_) (fun q1 q2 => ?_) (fun q1 q2 => ?_) (fun q1 q2 => ?_)
              · have HMX : Hid (max3 M D_ = -D_) := by unfold Hid max3; rw [if_pos q1, if_pos q2]
                go_wp2_with fail
                go_round
                case rel => exact ⟨p + 1, by omega, by go_num, by rw [HM.out, HMX.out]; try go_num⟩
                case measure => simp [intOf]; omega
              · have HMX : Hid (max3 M D_ = D_) := by unfold Hid max3; rw [if_pos q1, if_neg q2]
                go_wp2_with fail
                go_round
                case rel => exact ⟨p + 1, by omega, by go_num, by rw [HM.out, HMX.out]; try go_num⟩
                case measure => simp [intOf]; omega
              · have HMX : Hid (max3 M D_ = -D_) := by unfold Hid max3; rw [if_neg q1, if_pos q2]
                go_wp2_with fail
                go_round
                case rel => exact ⟨p + 1, by omega, by go_num, by rw [HM.out, HMX.out]; try go_num⟩
                case measure => simp [intOf]; omega
              · have HMX : Hid (max3 M D_ = M) := by unfold Hid max3; rw [if_neg q1, if_neg q2]
                go_wp2_with fail
                go_round
                case rel => exact ⟨p + 1, by omega, by go_num, by rw [HM.out, HMX.out]; try go_num⟩
                case measure => simp [intOf]; omega
        · have i2 : ¬ (p : Int) + 1 ≤ (P : Int) := by omega
          have HPP : Hid (p = P) := by unfold Hid; omega
          rw [HPP.out]
          go_wp2_with fail
          go_ret
          exact ⟨rfl, HB1.out.trans (HB.out.mono HB1.out.size)⟩
set_option maxRecDepth 20000 in
set_option maxHeartbeats 4000000 in
theorem ev_g1 (b d b2 d2 n m x y y1 y2 : Int) (P : Nat) (w : World) (hp0 : P ≤ 1073741824) (ha : AllIs b d P 0) (hy : YAllIs b d P 0) (hz : YAllIs b2 d2 y1 y2) (hn : ¬ n < 0) (ht : TurnIs b d n x 0) (hp : PairIs b d b2 d2 n x y 0) (hy2 : y2 = 0) (hu : YTurnIs b d n x) (hv : YTurnIs b2 d2 n y) (hf : FarIs b d m 0 2) (hm : m < 0) : lawEv b d b2 d2 n m w := by
  have hP0 : (P : Int) ≤ 1073741824 := by omega
  have HA := Lib.hid ha
  have HY := Lib.hid hy
  have HZ := Lib.hid hz
  clear ha hy hz
  subst hy2
  have HT := Lib.hid ht
  have HP := Lib.hid hp
  have HU := Lib.hid hu
  have HV := Lib.hid hv
  clear ht hp hu hv
  have HF := Lib.hid hf
  clear hf
  go_enter Try.func7, Try.ntmps7
  go_wp2_with fail
  refine (HA.out _).mono ?_
  rintro r w' ⟨rfl, rfl⟩
  go_wp2_with fail
  refine (HY.out _).mono ?_
  rintro r w' ⟨rfl, rfl⟩
  go_wp2_with fail
  refine (HT.out _).mono ?_
  rintro r w' ⟨rfl, rfl⟩
  go_wp2_with fail
  refine (HP.out _).mono ?_
  rintro r w' ⟨rfl, rfl⟩
  go_wp2_with fail
  refine (HF.out _).mono ?_
  rintro r w1 ⟨rfl, hb1⟩
  have HB1 := Lib.hid hb1
  clear hb1
  go_wp2_with fail
  refine (HZ.out _).mono ?_
  rintro r w' ⟨rfl, rfl⟩
  go_wp2_with fail
  refine (HU.out _).mono ?_
  rintro r w' ⟨rfl, rfl⟩
  go_wp2_with fail
  refine (HV.out _).mono ?_
  rintro r w' ⟨rfl, rfl⟩
  go_wp2_with fail
  go_ret
  exact ⟨rfl, HB1.out⟩
set_option maxRecDepth 20000 in
set_option maxHeartbeats 4000000 in
theorem ev_g2 (b d b2 d2 n m x y y1 y2 : Int) (P : Nat) (w : World) (hp0 : P ≤ 1073741824) (ha : AllIs b d P 0) (hy : YAllIs b d P 0) (hz : YAllIs b2 d2 y1 y2) (hn : ¬ n < 0) (ht : TurnIs b d n x 0) (hp : PairIs b d b2 d2 n x y 0) (hy2 : y2 = 0) (hu : YTurnIs b d n x) (hv : YTurnIs b2 d2 n y) (hf : FarIs b d m 0 2) (hm0 : ¬ m < 0) (hm : 400 < m) : lawEv b d b2 d2 n m w := by
  have hP0 : (P : Int) ≤ 1073741824 := by omega
  have HA := Lib.hid ha
  have HY := Lib.hid hy
  have HZ := Lib.hid hz
  clear ha hy hz
  subst hy2
  have HT := Lib.hid ht
  have HP := Lib.hid hp
  have HU := Lib.hid hu
  have HV := Lib.hid hv
  clear ht hp hu hv
  have HF := Lib.hid hf
  clear hf
  go_enter Try.func7, Try.ntmps7
  go_wp2_with fail
  refine (HA.out _).mono ?_
  rintro r w' ⟨rfl, rfl⟩
  go_wp2_with fail
  refine (HY.out _).mono ?_
  rintro r w' ⟨rfl, rfl⟩
  go_wp2_with fail
  refine (HT.out _).mono ?_
  rintro r w' ⟨rfl, rfl⟩
  go_wp2_with fail
  refine (HP.out _).mono ?_
  rintro r w' ⟨rfl, rfl⟩
  go_wp2_with fail
  refine (HF.out _).mono ?_
  rintro r w1 ⟨rfl, hb1⟩
  have HB1 := Lib.hid hb1
  clear hb1
  go_wp2_with fail
  refine (HZ.out _).mono ?_
  rintro r w' ⟨rfl, rfl⟩
  go_wp2_with fail
  refine (HU.out _).mono ?_
  rintro r w' ⟨rfl, rfl⟩
  go_wp2_with fail
  refine (HV.out _).mono ?_
  rintro r w' ⟨rfl, rfl⟩
  go_wp2_with fail
  go_ret
  exact ⟨rfl, HB1.out⟩
set_option maxRecDepth 20000 in
set_option maxHeartbeats 4000000 in
theorem ev_g3 (b d b2 d2 n m x y y1 y2 : Int) (P : Nat) (w : World) (hp0 : P ≤ 1073741824) (ha : AllIs b d P 0) (hy : YAllIs b d P 0) (hz : YAllIs b2 d2 y1 y2) (hn : ¬ n < 0) (ht : TurnIs b d n x 0) (hp : PairIs b d b2 d2 n x y 0) (hy2 : y2 = 0) (hu : YTurnIs b d n x) (hv : YTurnIs b2 d2 n y) (hf : FarIs b d m 0 2) (hm0 : ¬ m < 0) (hm1 : ¬ 400 < m) (hm : 4096 < P) : lawEv b d b2 d2 n m w := by
  have hP0 : (P : Int) ≤ 1073741824 := by omega
  have HA := Lib.hid ha
  have HY := Lib.hid hy
  have HZ := Lib.hid hz
  clear ha hy hz
  subst hy2
  have HT := Lib.hid ht
  have HP := Lib.hid hp
  have HU := Lib.hid hu
  have HV := Lib.hid hv
  clear ht hp hu hv
  have HF := Lib.hid hf
  clear hf
  have hp5 : (4096 : Int) < (P : Int) := by omega
  go_enter Try.func7, Try.ntmps7
  go_wp2_with fail
  refine (HA.out _).mono ?_
  rintro r w' ⟨rfl, rfl⟩
  go_wp2_with fail
  refine (HY.out _).mono ?_
  rintro r w' ⟨rfl, rfl⟩
  go_wp2_with fail
  refine (HT.out _).mono ?_
  rintro r w' ⟨rfl, rfl⟩
  go_wp2_with fail
  refine (HP.out _).mono ?_
  rintro r w' ⟨rfl, rfl⟩
  go_wp2_with fail
  refine (HF.out _).mono ?_
  rintro r w1 ⟨rfl, hb1⟩
  have HB1 := Lib.hid hb1
  clear hb1
  go_wp2_with fail
  refine (HZ.out _).mono ?_
  rintro r w' ⟨rfl, rfl⟩
  go_wp2_with fail
  refine (HU.out _).mono ?_
  rintro r w' ⟨rfl, rfl⟩
  go_wp2_with fail
  refine (HV.out _).mono ?_
  rintro r w' ⟨rfl, rfl⟩
  go_wp2_with fail
  go_ret
  exact ⟨rfl, HB1.out⟩
set_option maxRecDepth 20000 in
set_option maxHeartbeats 4000000 in
theorem ev_g4 (b d b2 d2 n x y y1 y2 : Int) (B D M_ P : Nat) (w : World) (hp0 : P ≤ 1073741824) (ha : AllIs b d P 0) (hy : YAllIs b d P 0) (hz : YAllIs b2 d2 y1 y2) (hn : ¬ n < 0) (ht : TurnIs b d n x 0) (hp : PairIs b d b2 d2 n x y 0) (hy2 : y2 = 0) (hu : YTurnIs b d n x) (hv : YTurnIs b2 d2 n y) (hP : Hid (B ^ D = P)) (hf : FarIs b d M_ (mst B D M_ P) 0) (hk : ∀ k : Nat, k ≤ 400 → YTurnIs b d k (trn B k D : Nat)) (hm4 : M_ ≤ 400) (hp4 : P ≤ 4096) : lawEv b d b2 d2 n M_ w := by
  have hP0 : (P : Int) ≤ 1073741824 := by omega
  have HA := Lib.hid ha
  have HY := Lib.hid hy
  have HZ := Lib.hid hz
  clear ha hy hz
  subst hy2
  have HT := Lib.hid ht
  have HP := Lib.hid hp
  have HU := Lib.hid hu
  have HV := Lib.hid hv
  clear ht hp hu hv
  have HF := Lib.hid hf
  have HK := Lib.hid hk
  clear hf hk
  have i5 : ¬ (400 : Int) < (M_ : Int) := by omega
  have i6 : ¬ 400 < M_ := by omega
  have i7 : ¬ (4096 : Int) < (P : Int) := by omega
  have i8 : ¬ 4096 < P := by omega
  go_enter Try.func7, Try.ntmps7
  go_wp2_with fail
  refine (HA.out _).mono ?_
  rintro r w' ⟨rfl, rfl⟩
  go_wp2_with fail
  refine (HY.out _).mono ?_
  rintro r w' ⟨rfl, rfl⟩
  go_wp2_with fail
  refine (HT.out _).mono ?_
  rintro r w' ⟨rfl, rfl⟩
  go_wp2_with fail
  refine (HP.out _).mono ?_
  rintro r w' ⟨rfl, rfl⟩
  go_wp2_with fail
  refine (HF.out _).mono ?_
  rintro r w1 ⟨rfl, hb1⟩
  have HB1 := Lib.hid hb1
  clear hb1
  go_wp2_with fail
  refine (HZ.out _).mono ?_
  rintro r w' ⟨rfl, rfl⟩
  go_wp2_with fail
  refine (HU.out _).mono ?_
  rintro r w' ⟨rfl, rfl⟩
  go_wp2_with fail
  refine (HV.out _).mono ?_
  rintro r w' ⟨rfl, rfl⟩
  go_wp2_with fail
  clear i5 i6 i7 i8
  have HBS := Lib.hid HB1.out.size
  go_loopw [27, 194] (fun s27 s194 wr => ∃ k : Nat, k ≤ M_ ∧ s194 = .int .i64 k ∧ Own wr w1.heap.size 3 s27 ((yl B D k).map (.int .i64)) ∧ Below w1.heap.size w1 wr) (fun _ s194 _ => M_ - (intOf s194).toNat)
  case atStart => exact ⟨0, Nat.zero_le _, rfl, Own.none_, Below.refl _ _⟩
  case round =>
    obtain ⟨k, hk, rfl, hown, hbel⟩ := hrel
    have HOW := Lib.hid hown
    have HB := Lib.hid hbel
    have HSZ := Lib.hid hbel.size
    clear hown hbel
    have hol := yl_len B D k
    by_cases hlt : k < M_
    · have i1 : (k : Int) < (M_ : Int) := by omega
      have HYS := Lib.hid (yl_succ B D k)
      have HYK := Lib.hid (HK.out k (by omega))
      generalize (trn B k D : Int) = t at *
      go_wp2_with fail
      refine (HYK.out _).mono ?_
      rintro r w' ⟨rfl, rfl⟩
      go_wp2_with (first
        | (at_builtin; go_must (refine wpList_push _ rfl _ _ 22 3 8 elem_ints rfl w1.heap.size _ _ rfl (Own.alloc' HOW.out _) (.int .i64 t) ⟨wr.heap.size, 0, none⟩ 1 rfl (cell_new1 _ _ _) rfl (by rw [List.length_map]; omega) (by rw [List.length_map]; unfold maxLen; omega) (by simp; exact Nat.le_succ_of_le HSZ.out) ?_); intro v3 w3 hown3 hbel3; have HO3 := Lib.hid hown3; have HB3 := Lib.hid hbel3; clear hown3 hbel3)
        | fail)
      go_roundw
      case rel =>
        refine ⟨k + 1, by omega, by go_num, ?_, (HB.out.alloc HSZ.out _).trans HB3.out⟩
        have h := HO3.out
        rw [HYS.out, List.map_append]; exact h
      case measure => simp [intOf]; omega
    · have i1 : ¬ (k : Int) < (M_ : Int) := by omega
      have hke : k = M_ := by omega
      subst hke
      obtain ⟨A3, c3, rfl, hc3, hsg⟩ := HOW.out.res
      have HSG := Lib.hid hsg
      clear hsg hc3
      rw [List.length_map, hol]
      go_wp2_with fail
      go_loop [26, 29] (fun s26 s29 => ∃ p : Nat, p ≤ P ∧ s29 = .int .i64 ((p : Int) + 1) ∧ s26 = .int .i64 (mst B D k p)) (fun _ s29 => P + 1 - (intOf s29).toNat)
      case atStart => exact ⟨0, Nat.zero_le _, rfl, rfl⟩
      case round =>
        obtain ⟨p, hp_, rfl, rfl⟩ := hrel
        by_cases hlt2 : p < P
        · have i2 : (p : Int) + 1 ≤ (P : Int) := by omega
          go_wp2_with fail
          go_loop [30, 212] (fun s30 s212 => ∃ j : Nat, j ≤ k ∧ s212 = .int .i64 j ∧ s30 = .int .i64 (bel B D j (p + 1) : Nat)) (fun _ s212 => k - (intOf s212).toNat)
          case atStart => exact ⟨0, Nat.zero_le _, rfl, rfl⟩
          case round =>
            obtain ⟨j, hj, rfl, rfl⟩ := hrel
            by_cases hlt3 : j < k
            · have i3 : (j : Int) < (k : Int) := by omega
              obtain ⟨ad, rfl, _, hc⟩ := HSG.out.int (show j < (yl B D k).length by rw [yl_len]; exact hlt3)
              rw [yl_get] at hc
              have hble := bel_le B D j (p + 1)
              have HBJ : Hid (bel B D (j + 1) (p + 1) = bel B D j (p + 1) + if trn B j D < p + 1 then 1 else 0) := rfl
              generalize bel B D j (p + 1) = l at *
              by_cases hq : trn B j D < p + 1
              · have HBV : Hid (bel B D (j + 1) (p + 1) = l + 1) := by unfold Hid; rw [HBJ.out, if_pos hq]
                generalize trn B j D = t at *
                have i4 : (t : Int) < (p : Int) + 1 := by omega
                go_wp2_with fail
                go_round
                case rel => exact ⟨j + 1, by omega, by go_num, by rw [HBV.out]; try go_num⟩
                case measure => simp [intOf]; omega
              · have HBV : Hid (bel B D (j + 1) (p + 1) = l) := by unfold Hid; rw [HBJ.out, if_neg hq, Nat.add_zero]
                generalize trn B j D = t at *
                have i4 : ¬ (t : Int) < (p : Int) + 1 := by omega
                go_wp2_with fail
                go_round
                case rel => exact ⟨j + 1, by omega, by go_num, by rw [HBV.out]⟩
                case measure => simp [intOf]; omega
            · have i3 : ¬ (j : Int) < (k : Int) := by omega
              have hje : j = k := by omega
              subst hje
              have hM := mst_bd (b := B) (d := D) (m := j) (k := p) hm4 (by rw [hP.out]; exact hp4) (by omega)
              have hD := dst_bd (b := B) (d := D) (m := j) (x := p + 1) hm4 (by rw [hP.out]; exact hp4) (by omega)
              have HM : Hid (mst B D j (p + 1) = max3 (mst B D j p) (dst B D j (p + 1))) := rfl
              have hDv : (bel B D j (p + 1) : Int) * (P : Int) - (j : Int) * ((p : Int) + 1) = dst B D j (p + 1) := by unfold dst; rw [hP.out]; rfl
              rw [hP.out] at hD
              generalize dst B D j (p + 1) = D_ at *
              generalize mst B D j p = M at *
              generalize bel B D j (p + 1) = l2 at *
              obtain ⟨X, hX⟩ : ∃ X : Int, (l2 : Int) * (P : Int) = X := ⟨_, rfl⟩
              obtain ⟨Y, hY⟩ : ∃ Y : Int, (j : Int) * ((p : Int) + 1) = Y := ⟨_, rfl⟩
              rw [hX, hY] at hDv
              have hXb : 0 ≤ X ∧ X ≤ 1638400 := by rw [← hX]; exact ⟨hD.2.2.2.1, hD.2.2.1⟩
              have hYb : 0 ≤ Y ∧ Y ≤ 1638400 := by rw [← hY]; exact ⟨hD.2.2.2.2.2, hD.2.2.2.2.1⟩
              have hDn : Y - X = -D_ := by omega
              have hD1 := hD.1
              have hD2 := hD.2.1
              clear hD
              refine max_cases (M := M) (D := D_) (fun q1 q2 => ?_) (fun q1 q2 => ?_) (fun q1 q2 => ?_) (fun q1 q2 => ?_)
              · have HMX : Hid (max3 M D_ = -D_) := by unfold Hid max3; rw [if_pos q1, if_pos q2]
                go_wp2_with fail
                go_round
                case rel => exact ⟨p + 1, by omega, by go_num, by rw [HM.out, HMX.out]; try go_num⟩
                case measure => simp [intOf]; omega
              · have HMX : Hid (max3 M D_ = D_) := by unfold Hid max3; rw [if_pos q1, if_neg q2]
                go_wp2_with fail
                go_round
                case rel => exact ⟨p + 1, by omega, by go_num, by rw [HM.out, HMX.out]; try go_num⟩
                case measure => simp [intOf]; omega
              · have HMX : Hid (max3 M D_ = -D_) := by unfold Hid max3; rw [if_neg q1, if_pos q2]
                go_wp2_with fail
                go_round
                case rel => exact ⟨p + 1, by omega, by go_num, by rw [HM.out, HMX.out]; try go_num⟩
                case measure => simp [intOf]; omega
              · have HMX : Hid (max3 M D_ = M) := by unfold Hid max3; rw [if_neg q1, if_neg q2]
                go_wp2_with fail
                go_round
                case rel => exact ⟨p + 1, by omega, by go_num, by rw [HM.out, HMX.out]; try go_num⟩
                case measure => simp [intOf]; omega
        · have i2 : ¬ (p : Int) + 1 ≤ (P : Int) := by omega
          have HPP : Hid (p = P) := by unfold Hid; omega
          rw [HPP.out]
          go_wp2_with fail
          go_ret
          exact ⟨rfl, HB1.out.trans (HB.out.mono HB1.out.size)⟩
theorem EvenTurns_walk (a0 a1 a2 a3 a4 a5 : Int) (w : World) (_w0 : (Lit.int .i64 a0).wf = true) (_w1 : (Lit.int .i64 a1).wf = true) (_w2 : (Lit.int .i64 a2).wf = true) (_w3 : (Lit.int .i64 a3).wf = true) (w4 : (Lit.int .i64 a4).wf = true) (_w5 : (Lit.int .i64 a5).wf = true) : lawEv a0 a1 a2 a3 a4 a5 w := by
  have hn2 : -9223372036854775808 ≤ a4 ∧ a4 ≤ 9223372036854775807 := by
    simp [Lit.wf, IntKind.min, IntKind.max, IntKind.bits, IntKind.signed] at w4
    omega
  have hall : ∀ b d, AllIs b d (eall b d).1 (eall b d).2 := fun b d w => all_any b d w
  have hyall : ∀ b d, YAllIs b d (eall b d).1 (eall b d).2 := fun b d w => yall_any b d w
  have hz := hyall a2 a3
  have tobel : ∀ {fn : Nat} {vs : Array Value} {r : Ending → Prop} {u : World}, Calls Try.prog fn vs u (fun e w' => r e ∧ u = w') → Calls Try.prog fn vs u (fun e w' => r e ∧ Below u.heap.size u w') := fun h => h.mono (fun e w' ⟨h1, h2⟩ => ⟨h1, h2 ▸ Below.refl _ _⟩)
  have erre : ∀ b d : Int, (eall b d).2 ≠ 0 → eall b d = (0, (eall b d).2) := fun b d h => by
    unfold eall at h ⊢
    split
    · next h1 =>
      rw [if_pos h1] at h
      split
      · next h2 => rw [if_pos h2] at h; exact absurd rfl h
      · rfl
    · rfl
  have oke : ∀ b d : Int, (eall b d).2 = 0 → ∃ B D : Nat, b = B ∧ d = D ∧ 2 ≤ B ∧ B ≤ 36 ∧ D ≤ 30 ∧ B ^ D ≤ 1073741824 ∧ eall b d = (((B ^ D : Nat) : Int), 0) := fun b d h => by
    unfold eall at h ⊢
    by_cases h1 : 2 ≤ b ∧ b ≤ 36 ∧ 0 ≤ d ∧ d ≤ 30
    · rw [if_pos h1] at h ⊢
      by_cases h2 : b.toNat ^ d.toNat ≤ 1073741824
      · rw [if_pos h2]
        exact ⟨b.toNat, d.toNat, by omega, by omega, by omega, by omega, by omega, h2, rfl⟩
      · rw [if_neg h2] at h; exact absurd h (by decide)
    · rw [if_neg h1] at h; exact absurd h (by decide)
  by_cases he : (eall a0 a1).2 = 0
  · obtain ⟨B, D, rfl, rfl, hb, hb2, hd, hp, e⟩ := oke _ _ he
    have ha := hall B D
    have hy := hyall B D
    rw [e] at ha hy
    have hpos : 0 < B ^ D := Nat.pow_pos (by omega)
    have hf1 : (a5 < 0 ∨ 400 < a5 ∨ 4096 < B ^ D) → FarIs B D a5 0 2 := fun h w => tobel (far_range B D a5 _ w e (by omega))
    by_cases hn : a4 < 0
    · have ht : TurnIs B D a4 0 2 := fun w => turn_neg B D a4 _ w e hn
      have hpr : PairIs B D a2 a3 a4 0 0 2 := fun w => pair_err1 B D a2 a3 a4 0 2 w ht (by decide)
      by_cases h1 : a5 < 0
      · exact ev_n1 _ _ _ _ _ _ 0 0 _ _ _ w hp ha hy hz hn ht hpr (hf1 (.inl h1)) h1
      · by_cases h2 : 400 < a5
        · exact ev_n2 _ _ _ _ _ _ 0 0 _ _ _ w hp ha hy hz hn ht hpr (hf1 (.inr (.inl h2))) h1 h2
        · by_cases h3 : 4096 < B ^ D
          · exact ev_n3 _ _ _ _ _ _ 0 0 _ _ _ w hp ha hy hz hn ht hpr (hf1 (.inr (.inr h3))) h1 h2 h3
          · obtain ⟨M_, rfl⟩ : ∃ M_ : Nat, a5 = M_ := ⟨a5.toNat, by omega⟩
            exact ev_n4 _ _ _ _ _ 0 0 _ _ B D M_ _ w hp ha hy hz hn ht hpr rfl (fun w => far_ok B D M_ _ w hb hb2 hd rfl (by omega) (by omega)) (fun k hk w => yturn_ok B D k w hb hb2 hd hp (by omega)) (by omega) (by omega)
    · obtain ⟨N, rfl⟩ : ∃ N : Nat, a4 = N := ⟨a4.toNat, by omega⟩
      have ht : TurnIs B D N (trn B N D : Nat) 0 := fun w => turn_ok B D N w hb hb2 hd hp
      have hu : YTurnIs B D N (trn B N D : Nat) := fun w => yturn_ok B D N w hb hb2 hd hp hn2.2
      by_cases he2 : (eall a2 a3).2 = 0
      · obtain ⟨B2, D2, rfl, rfl, hb3, hb4, hd3, hp3, e2⟩ := oke _ _ he2
        have ht2 : TurnIs B2 D2 N (trn B2 N D2 : Nat) 0 := fun w => turn_ok B2 D2 N w hb3 hb4 hd3 hp3
        have hv : YTurnIs B2 D2 N (trn B2 N D2 : Nat) := fun w => yturn_ok B2 D2 N w hb3 hb4 hd3 hp3 hn2.2
        have hpr : PairIs B D B2 D2 N (trn B N D : Nat) (trn B2 N D2 : Nat) 0 := fun w => pair_ok B D B2 D2 N _ 0 _ 0 w ht ht2 rfl rfl
        by_cases h1 : a5 < 0
        · exact ev_g1 _ _ _ _ _ _ _ _ _ _ _ w hp ha hy hz hn ht hpr he2 hu hv (hf1 (.inl h1)) h1
        · by_cases h2 : 400 < a5
          · exact ev_g2 _ _ _ _ _ _ _ _ _ _ _ w hp ha hy hz hn ht hpr he2 hu hv (hf1 (.inr (.inl h2))) h1 h2
          · by_cases h3 : 4096 < B ^ D
            · exact ev_g3 _ _ _ _ _ _ _ _ _ _ _ w hp ha hy hz hn ht hpr he2 hu hv (hf1 (.inr (.inr h3))) h1 h2 h3
            · obtain ⟨M_, rfl⟩ : ∃ M_ : Nat, a5 = M_ := ⟨a5.toNat, by omega⟩
              exact ev_g4 _ _ _ _ _ _ _ _ _ B D M_ _ w hp ha hy hz hn ht hpr he2 hu hv rfl (fun w => far_ok B D M_ _ w hb hb2 hd rfl (by omega) (by omega)) (fun k hk w => yturn_ok B D k w hb hb2 hd hp (by omega)) (by omega) (by omega)
      · have e2 := erre _ _ he2
        have hpr : PairIs B D a2 a3 N 0 0 (eall a2 a3).2 := fun w => pair_err2 B D a2 a3 N _ 0 0 _ w ht (fun w => turn_err a2 a3 N _ w e2 he2) rfl he2
        by_cases h1 : a5 < 0
        · exact ev_b1 _ _ _ _ _ _ _ 0 _ _ _ w hp ha hy hz hn ht hpr he2 hu (hf1 (.inl h1)) h1
        · by_cases h2 : 400 < a5
          · exact ev_b2 _ _ _ _ _ _ _ 0 _ _ _ w hp ha hy hz hn ht hpr he2 hu (hf1 (.inr (.inl h2))) h1 h2
          · by_cases h3 : 4096 < B ^ D
            · exact ev_b3 _ _ _ _ _ _ _ 0 _ _ _ w hp ha hy hz hn ht hpr he2 hu (hf1 (.inr (.inr h3))) h1 h2 h3
            · obtain ⟨M_, rfl⟩ : ∃ M_ : Nat, a5 = M_ := ⟨a5.toNat, by omega⟩
              exact ev_b4 _ _ _ _ _ _ 0 _ _ B D M_ _ w hp ha hy hz hn ht hpr he2 hu rfl (fun w => far_ok B D M_ _ w hb hb2 hd rfl (by omega) (by omega)) (fun k hk w => yturn_ok B D k w hb hb2 hd hp (by omega)) (by omega) (by omega)
  · have e := erre _ _ he
    have ha := hall a0 a1
    have hy := hyall a0 a1
    rw [show (eall a0 a1).1 = 0 by rw [e]] at ha hy
    have ht : TurnIs a0 a1 a4 0 (eall a0 a1).2 := fun w => turn_err a0 a1 a4 _ w e he
    exact ev_err _ _ _ _ _ _ _ _ _ w he ha hy ht (fun w => pair_err1 a0 a1 a2 a3 a4 0 _ w ht he) (fun w => tobel (far_err a0 a1 a5 _ w e he)) hz
end Go.Proofs.Ytmcbkjepjijfjaa
