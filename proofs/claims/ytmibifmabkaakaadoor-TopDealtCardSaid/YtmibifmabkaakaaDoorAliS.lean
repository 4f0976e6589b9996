/- Draws by places and levels: all weights together, walked twice. No condition. -/
import Derived.Test.YtmibifmabkaakaaDoorAliM
import Derived.BigQuiet
import Derived.IntWalk
namespace Go.Proofs.YtmibifmabkaakaaDoor
open Go.ChangeShapes Go.WideShapes Go.ChangeAt Go.RowKit
set_option linter.unusedVariables false

abbrev S2 (r : Int × Int) : Ending := .returned (.tuple #[.int .i64 r.1, .int .i64 r.2])
set_option maxRecDepth 20000 in
set_option maxHeartbeats 2000000 in
theorem asum_any (l : List Int) (A : Option Addr) (c B : Nat) (w : World) (hs : Seg w B A (l.map (.int .i64))) (hm : l.length ≤ 9223372036854775807) :
    Calls Tryd.prog 22 #[.slice A l.length c] w fun e w' => e = S2 (asumR l) ∧ w = w' := by
  have HS := Lib.hid hs
  clear hs
  by_cases hr : 1 ≤ l.length ∧ l.length ≤ 400
  · have HA : Hid (aokB l = aokc l l.length) := by unfold aokB Hid; rw [decide_eq_true hr]; rfl
    have i1 : ¬ (l.length : Int) < 1 := by omega
    have i2 : ¬ 400 < (l.length : Int) := by omega
    have hl := hr.2
    clear hr
    go_enter Tryd.func22, Tryd.ntmps22
    go_wp2_with fail
    clear i1 i2
    go_loop [4, 17] (fun s4 s17 => ∃ j : Nat, j ≤ l.length ∧ s17 = .int .i64 j ∧ s4 = .int .i64 (asum l j) ∧ Hid (aokc l j = true)) (fun _ s17 => l.length - (intOf s17).toNat)
    case atStart => exact ⟨0, Nat.zero_le _, rfl, rfl, rfl⟩
    case round =>
      obtain ⟨j, hj, rfl, rfl, hok⟩ := hrel
      have hb := asum_bd hok.out j (Nat.le_refl _)
      by_cases hlt : j < l.length
      · have i2 : (j : Int) < (l.length : Int) := by omega
        obtain ⟨ad, rfl, _, hcell⟩ := HS.out.pat hlt
        have HST : Hid (aokc l (j + 1) = (aokc l j && decide (0 ≤ pat l j ∧ pat l j ≤ 1048576))) := rfl
        have HSU : Hid (asum l (j + 1) = asum l j + pat l j) := rfl
        have HNO : Hid (aokc l (j + 1) = false → asumR l = (0, 2)) := fun h => by unfold asumR; rw [HA.out, aokc_no hlt h]; rfl
        generalize pat l j = x at *
        generalize asum l j = s at *
        by_cases h1 : x < 0
        · have HF := Lib.hid (HNO.out (by rw [HST.out, hok.out, decide_eq_false (by omega)]; rfl))
          go_wp2_with fail
          go_ret2
          exact ⟨by rw [HF.out]; rfl, rfl⟩
        · by_cases h2 : 1048576 < x
          · have HF := Lib.hid (HNO.out (by rw [HST.out, hok.out, decide_eq_false (by omega)]; rfl))
            go_wp2_with fail
            go_ret2
            exact ⟨by rw [HF.out]; rfl, rfl⟩
          · have HT : Hid (aokc l (j + 1) = true) := by unfold Hid; rw [HST.out, hok.out, decide_eq_true (by omega)]; rfl
            go_wp2_with fail
            go_round
            case rel => exact ⟨j + 1, by omega, by go_num, by rw [HSU.out], HT⟩
            case measure => simp [intOf]; omega
      · have i2 : ¬ (j : Int) < (l.length : Int) := by omega
        obtain rfl : j = l.length := by omega
        have HR : Hid (asumR l = if asum l l.length = 0 then (0, 3) else (asum l l.length, 0)) := by unfold asumR Hid; rw [HA.out, hok.out]; rfl
        generalize asum l l.length = s at *
        by_cases hz : s = 0
        · have HV : Hid (asumR l = (0, 3)) := by unfold Hid; rw [HR.out, if_pos hz]
          have b1 : (s == 0) = true := by simpa using hz
          clear hz
          go_wp2_with fail
          go_ret2
          exact ⟨by rw [HV.out]; rfl, rfl⟩
        · have HV : Hid (asumR l = (s, 0)) := by unfold Hid; rw [HR.out, if_neg hz]
          have b1 : (s == 0) = false := by simpa using hz
          clear hz
          go_wp2_with fail
          go_ret2
          exact ⟨by rw [HV.out]; rfl, rfl⟩
  · have HV : Hid (asumR l = (0, 2)) := by unfold asumR aokB Hid; rw [decide_eq_false hr]; rfl
    rcases (by omega : l.length < 1 ∨ (¬ l.length < 1 ∧ 400 < l.length)) with h | ⟨h, h2⟩
    · have i1 : (l.length : Int) < 1 := by omega
      clear hr
      go_enter Tryd.func22, Tryd.ntmps22
      go_wp2_with fail
      go_ret2
      exact ⟨by rw [HV.out]; rfl, rfl⟩
    · have i1 : ¬ (l.length : Int) < 1 := by omega
      have i2 : 400 < (l.length : Int) := by omega
      clear hr
      go_enter Tryd.func22, Tryd.ntmps22
      go_wp2_with fail
      go_ret2
      exact ⟨by rw [HV.out]; rfl, rfl⟩
end Go.Proofs.YtmibifmabkaakaaDoor
