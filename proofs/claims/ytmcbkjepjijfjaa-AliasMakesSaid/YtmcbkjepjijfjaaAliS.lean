/- Draws by places and levels: all weights together, walked twice. No condition. -/
import Derived.Test.YtmcbkjepjijfjaaAliM
import Derived.BigQuiet
import Derived.IntWalk
namespace Go.Proofs.Ytmcbkjepjijfjaa
open Go.ChangeShapes Go.WideShapes Go.ChangeAt Go.RowKit
set_option linter.unusedVariables false

abbrev S2 (r : Int × Int) : Ending := .returned (.tuple #[.int .i64 r.1, .int .i64 r.2])
set_option maxRecDepth 20000 in
set_option maxHeartbeats 2000000 in
theorem asum_any (l : List Int) (A : Option Addr) (c B : Nat) (w : World) (hs : Seg w B A (l.map (.int .i64))) (hm : l.length ≤ 9223372036854775807) :
    Calls Try.prog 43 #[.slice A l.length c] w fun e w' => e = S2 (asumR l) ∧ w = w' := by
  have HS := Lib.hid hs
  clear hs
  by_cases hr : 1 ≤ l.length ∧ l.length ≤ 400
  · have HA : Hid (aokB l = aokc l l.length) := by unfold aokB Hid; rw [decide_eq_true hr]; rfl
    have i1 : ¬ (l.length : Int) < 1 := by omega
    have i2 : ¬ 400 < (l.length : Int) := by omega
    have hl := hr.2
    clear hr
    go_enter Try.func43, Try.ntmps43
    go_wp2_with fail
    clear i1 i2
    go_loop [4, 17] (fun s4 s17 => ∃ j : Nat, j ≤ l.length ∧ s17 = .int .i64 j ∧ s4 = .int .i64 (asum l j) ∧ Hid (aokc l j = true)) (fun _ s17 => l.length - (intOf s17).toNat)
    case atStart => exact ⟨0, Nat.zero_le _, rfl, rfl, rfl⟩
    case round =>
      obtain ⟨j, hj, rfl, rfl, hok⟩ := hrel
      have hb := asum_bd hok.out j (Nat.le_refl _)
      by_cases hlt : j < l.length
      · have i2 : (j : Int) < (l.length : Int) := by omega
        obtain ⟨ad, rfl, _, hcell⟩ := HS.out.pat hlt
        have HST : Hid (aokc l (j + 1) = (aokc l j && decide (0 ≤ pat l j ∧ pat l j ≤ 1048576))) := rfl
        have HSU : Hid (asum l (j + 1) = asum l j + pat l j) := rfl
        have HNO : Hid (aokc l (j + 1) = false → asumR l = (0, 2)) := fun h => by unfold asumR; rw [HA.out, aokc_no hlt h]; rfl
        generalize pat l j = x at *
        generalize asum l j = s at *
        by_cases h1 : x < 0
        · have HF := Lib.hid (HNO.out (by rw [HST.out, hok.out, decide_eq_false (by omega)]; rfl))
          go_wp2_with fail
          go_ret2
          exact ⟨by rw [HF.out]; rfl, rfl⟩
        · by_cases h2 : 1048576 < x
          · have HF := Lib.hid (HNO.out (by rw [HST.out, hok.out, decide_eq_false (by omega)]; rfl))
            go_wp2_with fail
            go_ret2
            exact ⟨by rw [HF.out]; rfl, rfl⟩
          · have HT : Hid (aokc l (j + 1) = true) := by unfold Hid; rw [HST.out, hok.out, decide_eq_true (by omega)]; rfl
            go_wp2_with fail
            go_round
            case rel => exact ⟨j + 1, by omega, by go_num, by rw [HSU.out], HT⟩
            case measure => simp [intOf]; omega
      · have i2 : ¬ (j : Int) < (l.length : Int) := by omega
        obtain rfl : j = l.length := by omega
        have HR : Hid (asumR l = if asum l l.length = 0 then (0, 3) else (asum l l.length, 0)) := by unfold asumR Hid; rw [HA.out, hok.out]; rfl
        generalize asum l l.length = s at *
        by_cases hz : s = 0
        · have HV : Hid (asumR l = (0, 3)) := by unfold Hid; rw [HR.out, if_pos hz]
          have b1 : (s == 0) = true := by simpa using hz
          clear hz
          go_wp2_with fail
          go_ret2
          exact ⟨by rw [HV.out]; rfl, rfl⟩
        · have HV : Hid (asumR l = (s, 0)) := by unfold Hid; rw [HR.out, if_neg hz]
          have b1 : (s == 0) = false := by simpa using hz
          clear hz
          go_wp2_with fail
          go_ret2
          exact ⟨by rw [HV.out]; rfl, rfl⟩
  · have HV : Hid (asumR l = (0, 2)) := by unfold asumR aokB Hid; rw [decide_eq_false hr]; rfl
    rcases (by omega : l.length < 1 ∨ (¬ l.length < 1 ∧ 400 < l.length)) with h | ⟨h, h2⟩
    · have i1 : (l.length : Int) < 1 := by omega
      clear hr
      go_enter Try.func43, Try.ntmps43
      go_wp2_with fail
      go_ret2
      exact ⟨by rw [HV.out]; rfl, rfl⟩
    · have i1 : ¬ (l.length : Int) < 1 := by omega
      have i2 : 400 < (l.length : Int) := by omega
      clear hr
      go_enter Try.func43, Try.ntmps43
      go_wp2_with fail
      go_ret2
      exact ⟨by rw [HV.out]; rfl, rfl⟩
set_option maxRecDepth 20000 in
set_option maxHeartbeats 2000000 in
theorem hsum_any (l : List Int) (A : Option Addr) (c B : Nat) (w : World) (hs : Seg w B A (l.map (.int .i64))) (hm : l.length ≤ 9223372036854775807) :
    Calls Try.prog 44 #[.slice A l.length c] w fun e w' => e = S2 (asumR l) ∧ w = w' := by
  have HS := Lib.hid hs
  clear hs
  obtain ⟨b, hb⟩ : ∃ b, decide (1 ≤ l.length ∧ l.length ≤ 400) = b := ⟨_, rfl⟩
  have HA : Hid (aokB l = (b && aokc l l.length)) := by unfold aokB Hid; rw [hb]
  by_cases h0 : 0 < l.length
  · have hbi : decide ((l.length : Int) < 401) = b := by rw [← hb]; apply decide_eq_decide.2; omega
    have i1 : 0 < (l.length : Int) := by omega
    have HBB : Hid (b = true → l.length ≤ 400) := fun h => by rw [← hb] at h; have := of_decide_eq_true h; omega
    clear hb
    go_enter Try.func44, Try.ntmps44
    go_wp2_with fail
    go_loop [4, 5, 18] (fun s4 s5 s18 => ∃ (j : Nat) (z : Int), j ≤ l.length ∧ s18 = .int .i64 j ∧ s4 = .int .i64 z ∧ s5 = .bool (b && aokc l j) ∧ Hid ((b && aokc l j) = true → z = asum l j)) (fun _ _ s18 => l.length - (intOf s18).toNat)
    case atStart => exact ⟨0, 0, Nat.zero_le _, rfl, rfl, by rw [show aokc l 0 = true from rfl, Bool.and_true], fun _ => rfl⟩
    case round =>
      obtain ⟨j, z, hj, rfl, rfl, rfl, hz⟩ := hrel
      by_cases hlt : j < l.length
      · have i2 : (j : Int) < (l.length : Int) := by omega
        obtain ⟨ad, rfl, _, hcell⟩ := HS.out.pat hlt
        have HST : Hid ((b && aokc l (j + 1)) = ((b && aokc l j) && decide (0 ≤ pat l j ∧ pat l j ≤ 1048576))) := by unfold Hid; rw [Bool.and_assoc]; rfl
        have HSU : Hid (asum l (j + 1) = asum l j + pat l j) := rfl
        have HB : Hid ((b && aokc l j) = true → 0 ≤ asum l j ∧ asum l j ≤ 1048576 * j ∧ l.length ≤ 400) := fun h => by
          simp only [Bool.and_eq_true] at h
          have h1 := asum_bd h.2 j (Nat.le_refl _)
          have h2 := HBB.out h.1
          exact ⟨h1.1, h1.2, h2⟩
        generalize (b && aokc l j) = q at *
        generalize pat l j = x at *
        generalize asum l j = s at *
        have HW : Hid (q = true → 0 ≤ x → x ≤ 1048576 → wrap64 (z + x) = s + x) := fun h h1 h2 => by
          have h3 := HB.out h
          rw [hz.out h]
          unfold wrap64
          omega
        rcases (by cases q <;> simp <;> omega : q = false ∨ (q = true ∧ x < 0) ∨ (q = true ∧ ¬ x < 0 ∧ 1048576 < x) ∨ (q = true ∧ ¬ x < 0 ∧ ¬ 1048576 < x)) with rfl | ⟨rfl, h1⟩ | ⟨rfl, h1, h2⟩ | ⟨rfl, h1, h2⟩
        · have HF : Hid ((b && aokc l (j + 1)) = false) := by unfold Hid; rw [HST.out]; rfl
          go_wp2_with fail
          go_round
          case rel => exact ⟨j + 1, _, by omega, by go_num, rfl, by rw [HF.out], fun h => by rw [HF.out] at h; cases h⟩
          case measure => simp [intOf]; omega
        · have HF : Hid ((b && aokc l (j + 1)) = false) := by unfold Hid; rw [HST.out, decide_eq_false (by omega)]; rfl
          have c1 : decide (0 ≤ x) = false := decide_eq_false (by omega)
          go_wp2_with fail
          go_round
          case rel => exact ⟨j + 1, _, by omega, by go_num, rfl, by rw [HF.out], fun h => by rw [HF.out] at h; cases h⟩
          case measure => simp [intOf]; omega
        · have HF : Hid ((b && aokc l (j + 1)) = false) := by unfold Hid; rw [HST.out, decide_eq_false (by omega)]; rfl
          have c2 : decide (x ≤ 1048576) = false := decide_eq_false (by omega)
          go_wp2_with fail
          go_round
          case rel => exact ⟨j + 1, _, by omega, by go_num, rfl, by rw [HF.out], fun h => by rw [HF.out] at h; cases h⟩
          case measure => simp [intOf]; omega
        · have HF : Hid ((b && aokc l (j + 1)) = true) := by unfold Hid; rw [HST.out, decide_eq_true (by omega)]; rfl
          have c2 : decide (x ≤ 1048576) = true := decide_eq_true (by omega)
          have HW2 := Lib.hid (HW.out rfl (by omega) (by omega))
          go_wp2_with fail
          go_round
          case rel => exact ⟨j + 1, _, by omega, by go_num, rfl, by rw [HF.out], fun _ => by rw [HSU.out]; exact HW2.out⟩
          case measure => simp [intOf]; omega
      · have i2 : ¬ (j : Int) < (l.length : Int) := by omega
        obtain rfl : j = l.length := by omega
        have HR : Hid (asumR l = if (b && aokc l l.length) = true then (if z = 0 then (0, 3) else (z, 0)) else (0, 2)) := by
          unfold asumR Hid; rw [HA.out]
          cases hq : (b && aokc l l.length)
          · rfl
          · rw [hz.out hq]
        generalize (b && aokc l l.length) = q at *
        rcases (by cases q <;> simp <;> omega : q = false ∨ (q = true ∧ z = 0) ∨ (q = true ∧ z ≠ 0)) with rfl | ⟨rfl, h1⟩ | ⟨rfl, h1⟩
        · have HV : Hid (asumR l = (0, 2)) := HR.out
          go_wp2_with fail
          go_ret2
          exact ⟨by rw [HV.out]; rfl, rfl⟩
        · have HV : Hid (asumR l = (0, 3)) := by unfold Hid; rw [HR.out, if_pos rfl, if_pos h1]
          have b1 : (z == 0) = true := by simpa using h1
          clear h1
          go_wp2_with fail
          go_ret2
          exact ⟨by rw [HV.out]; rfl, rfl⟩
        · have HV : Hid (asumR l = (z, 0)) := by unfold Hid; rw [HR.out, if_pos rfl, if_neg h1]
          have b1 : (z == 0) = false := by simpa using h1
          clear h1
          go_wp2_with fail
          go_ret2
          exact ⟨by rw [HV.out]; rfl, rfl⟩
  · obtain rfl : l = [] := by cases l with | nil => rfl | cons a b => simp at h0
    have HV : Hid (asumR ([] : List Int) = (0, 2)) := by unfold Hid; decide
    clear hb HA b
    go_enter Try.func44, Try.ntmps44
    go_wp2_with fail
    go_loop [5, 18] (fun s5 s18 => s5 = .bool false ∧ s18 = .int .i64 0) (fun _ _ => 0)
    case atStart => exact ⟨rfl, rfl⟩
    case round =>
      obtain ⟨rfl, rfl⟩ := hrel
      go_wp2_with fail
      go_ret2
      exact ⟨by rw [HV.out]; rfl, rfl⟩
end Go.Proofs.Ytmcbkjepjijfjaa
