/- Whether a choice rises, walked twice. No condition. -/
import Derived.Test.YtmcbkjepjijfjaaComN
import Derived.BigQuiet
import Derived.IntWalk
namespace Go.Proofs.Ytmcbkjepjijfjaa
open Go.ChangeShapes Go.WideShapes Go.ChangeAt Go.RowKit
set_option linter.unusedVariables false

set_option maxRecDepth 20000 in
set_option maxHeartbeats 2000000 in
theorem cright_any (n : Int) (zs : List Int) (A : Option Addr) (c B : Nat) (w : World) (hs : Seg w B A (zs.map (.int .i64))) (hm : zs.length ≤ 9223372036854775807) :
    Calls Try.prog 16 #[.int .i64 n, .slice A zs.length c] w fun e w' => e = .returned (.bool (eright n zs)) ∧ w = w' := by
  by_cases hr : 0 ≤ n ∧ n ≤ 60
  · have HE : Hid (eright n zs = eokc n zs zs.length) := by unfold Hid eright; rw [decide_eq_true hr]; rfl
    obtain ⟨hr1, hr2⟩ := hr
    have r1 : ¬ n < 0 := by omega
    have r2 : ¬ 60 < n := by omega
    go_enter Try.func16, Try.ntmps16
    go_wp2_with fail
    go_loop [15] (fun s15 => ∃ j : Nat, j ≤ zs.length ∧ s15 = .int .i64 j ∧ Hid (eokc n zs j = true)) (fun s15 => zs.length - (intOf s15).toNat)
    case atStart => exact ⟨0, Nat.zero_le _, rfl, rfl⟩
    case round =>
      obtain ⟨j, hj, rfl, hp⟩ := hrel
      by_cases hlt : j < zs.length
      · have hi1 : (j : Int) < (zs.length : Int) := by omega
        obtain ⟨ad, rfl, _, hc⟩ := hs.int hlt
        have HX : Hid (eokc n zs (j + 1) = (decide (eprev zs j < zat zs j) && decide (zat zs j < n))) := by
          unfold Hid; show (eokc n zs j && _) = _; rw [hp.out]; rfl
        have HF : Hid (eokc n zs (j + 1) = false → eright n zs = false) := fun h => by rw [HE.out]; exact eokc_false h hlt
        have hz := zat_get hlt
        by_cases hj0 : j = 0
        · subst hj0
          rw [← hz] at hc
          rw [show ad.add 0 = ad by simp [Addr.add]] at hc
          have HX0 : Hid (eokc n zs 1 = (decide (-1 < zat zs 0) && decide (zat zs 0 < n))) := HX.out
          generalize zat zs 0 = x at *
          clear hz
          by_cases h1 : x < 0
          · have HG : Hid (eright n zs = false) := HF.out (by rw [HX0.out, decide_eq_false (by omega)]; rfl)
            go_wp2_with fail
            go_ret
            exact ⟨by rw [HG.out]; rfl, rfl⟩
          · by_cases h2 : n ≤ x
            · have HG : Hid (eright n zs = false) := HF.out (by rw [HX0.out, decide_eq_false (show ¬ x < n by omega), Bool.and_false])
              go_wp2_with fail
              go_ret
              exact ⟨by rw [HG.out]; rfl, rfl⟩
            · have HG : Hid (eokc n zs 1 = true) := by unfold Hid; rw [HX0.out, decide_eq_true (show -1 < x by omega), decide_eq_true (show x < n by omega)]; rfl
              go_wp2_with fail
              go_round
              case rel => exact ⟨1, by omega, by go_num, HG⟩
              case measure => simp [intOf]; omega
        · obtain ⟨i, hi⟩ : ∃ i, j = i + 1 := ⟨j - 1, by omega⟩
          have hli : i < zs.length := by omega
          obtain ⟨ad2, e2, _, hd⟩ := hs.int hli
          obtain rfl : ad = ad2 := by injection e2
          have hy := zat_get hli
          have hnn := eokc_nn hp.out (show i < j by omega)
          have HX0 : Hid (eokc n zs (j + 1) = (decide (zat zs i < zat zs j) && decide (zat zs j < n))) := by unfold Hid; rw [HX.out, hi]; rfl
          rw [← hz] at hc
          rw [← hy] at hd
          have hi2 : (i : Int) < (zs.length : Int) := by omega
          have hi3 : (j : Int) - 1 = (i : Int) := by omega
          have hi4 : 0 < (j : Int) := by omega
          have hi5 : 0 < j := by omega
          clear HX
          generalize zat zs j = x at *
          generalize zat zs i = y at *
          clear hz hy e2 hi
          by_cases h1 : x < 0
          · have HG : Hid (eright n zs = false) := HF.out (by rw [HX0.out, decide_eq_false (show ¬ y < x by omega)]; rfl)
            go_wp2_with fail
            go_ret
            exact ⟨by rw [HG.out]; rfl, rfl⟩
          · by_cases h2 : n ≤ x
            · have HG : Hid (eright n zs = false) := HF.out (by rw [HX0.out, decide_eq_false (show ¬ x < n by omega), Bool.and_false])
              go_wp2_with fail
              go_ret
              exact ⟨by rw [HG.out]; rfl, rfl⟩
            · by_cases h3 : x ≤ y
              · have HG : Hid (eright n zs = false) := HF.out (by rw [HX0.out, decide_eq_false (show ¬ y < x by omega)]; rfl)
                go_wp2_with fail
                go_ret
                exact ⟨by rw [HG.out]; rfl, rfl⟩
              · have HG : Hid (eokc n zs (j + 1) = true) := by unfold Hid; rw [HX0.out, decide_eq_true (show y < x by omega), decide_eq_true (show x < n by omega)]; rfl
                go_wp2_with fail
                go_round
                case rel => exact ⟨j + 1, by omega, by go_num, HG⟩
                case measure => simp [intOf]; omega
      · have hi1 : ¬ (j : Int) < (zs.length : Int) := by omega
        have HG : Hid (eright n zs = true) := by
          unfold Hid; rw [HE.out, show zs.length = j by omega]; exact hp.out
        go_wp2_with fail
        go_ret
        exact ⟨by rw [HG.out]; rfl, rfl⟩
  · have HE : Hid (eright n zs = false) := by unfold Hid eright; rw [decide_eq_false hr]; rfl
    by_cases r1 : n < 0
    · go_enter Try.func16, Try.ntmps16
      go_wp2_with fail
      go_ret
      exact ⟨by rw [HE.out]; rfl, rfl⟩
    · have r2 : 60 < n := by omega
      go_enter Try.func16, Try.ntmps16
      go_wp2_with fail
      go_ret
      exact ⟨by rw [HE.out]; rfl, rfl⟩
set_option maxRecDepth 20000 in
set_option maxHeartbeats 2000000 in
theorem eright_any (n : Int) (zs : List Int) (A : Option Addr) (c B : Nat) (w : World) (hs : Seg w B A (zs.map (.int .i64))) (hm : zs.length ≤ 9223372036854775807) :
    Calls Try.prog 17 #[.int .i64 n, .slice A zs.length c] w fun e w' => e = .returned (.bool (eright n zs)) ∧ w = w' := by
  by_cases hr : 0 ≤ n ∧ n ≤ 60
  · have HE : Hid (eright n zs = eokc n zs zs.length) := by unfold Hid eright; rw [decide_eq_true hr]; rfl
    obtain ⟨hr1, hr2⟩ := hr
    go_enter Try.func17, Try.ntmps17
    go_wp2_with fail
    go_loop [5, 6, 17] (fun s5 s6 s17 => ∃ j : Nat, j ≤ zs.length ∧ s17 = .int .i64 j ∧ s5 = .bool (eokc n zs j) ∧ s6 = .int .i64 (eprev zs j)) (fun _ _ s17 => zs.length - (intOf s17).toNat)
    case atStart => exact ⟨0, Nat.zero_le _, rfl, rfl, rfl⟩
    case round =>
      obtain ⟨j, hj, rfl, rfl, rfl⟩ := hrel
      by_cases hlt : j < zs.length
      · have hi1 : (j : Int) < (zs.length : Int) := by omega
        obtain ⟨ad, rfl, _, hc⟩ := hs.int hlt
        have HX : Hid (eokc n zs (j + 1) = (eokc n zs j && (decide (eprev zs j < zat zs j) && decide (zat zs j < n)))) := rfl
        have HP : Hid (eprev zs (j + 1) = zat zs j) := rfl
        rw [← zat_get hlt] at hc
        generalize zat zs j = x at *
        generalize eprev zs j = y at *
        generalize eokc n zs j = b at *
        cases b with
        | false =>
          have HG : Hid (eokc n zs (j + 1) = false) := HX.out
          go_wp2_with fail
          go_round
          case rel => exact ⟨j + 1, by omega, by go_num, by rw [HG.out], by rw [HP.out]⟩
          case measure => simp [intOf]; omega
        | true =>
          by_cases h1 : y < x
          · by_cases h2 : x < n
            · have HG : Hid (eokc n zs (j + 1) = true) := by unfold Hid; rw [HX.out, decide_eq_true h1, decide_eq_true h2]; rfl
              go_wp2_with fail
              go_round
              case rel => exact ⟨j + 1, by omega, by go_num, by rw [HG.out], by rw [HP.out]⟩
              case measure => simp [intOf]; omega
            · have HG : Hid (eokc n zs (j + 1) = false) := by unfold Hid; rw [HX.out, decide_eq_true h1, decide_eq_false h2]; rfl
              go_wp2_with fail
              go_round
              case rel => exact ⟨j + 1, by omega, by go_num, by rw [HG.out], by rw [HP.out]⟩
              case measure => simp [intOf]; omega
          · have HG : Hid (eokc n zs (j + 1) = false) := by unfold Hid; rw [HX.out, decide_eq_false h1]; rfl
            go_wp2_with fail
            go_round
            case rel => exact ⟨j + 1, by omega, by go_num, by rw [HG.out], by rw [HP.out]⟩
            case measure => simp [intOf]; omega
      · have hi1 : ¬ (j : Int) < (zs.length : Int) := by omega
        have HG : Hid (eokc n zs j = eright n zs) := by
          unfold Hid; rw [HE.out, show zs.length = j by omega]
        go_wp2_with fail
        go_ret
        exact ⟨by rw [← HG.out]; rfl, rfl⟩
  · have HE : Hid (eright n zs = false) := by unfold Hid eright; rw [decide_eq_false hr]; rfl
    by_cases r1 : n < 0
    · have r2 : ¬ 0 ≤ n := by omega
      go_enter Try.func17, Try.ntmps17
      go_wp2_with fail
      go_loop [5, 6, 17] (fun s5 s6 s17 => ∃ j : Nat, j ≤ zs.length ∧ s17 = .int .i64 j ∧ s5 = .bool false ∧ s6 = .int .i64 (eprev zs j)) (fun _ _ s17 => zs.length - (intOf s17).toNat)
      case atStart => exact ⟨0, Nat.zero_le _, rfl, rfl, rfl⟩
      case round =>
        obtain ⟨j, hj, rfl, rfl, rfl⟩ := hrel
        by_cases hlt : j < zs.length
        · have hi1 : (j : Int) < (zs.length : Int) := by omega
          obtain ⟨ad, rfl, _, hc⟩ := hs.int hlt
          have HP : Hid (eprev zs (j + 1) = zat zs j) := rfl
          rw [← zat_get hlt] at hc
          generalize zat zs j = x at *
          generalize eprev zs j = y at *
          go_wp2_with fail
          go_round
          case rel => exact ⟨j + 1, by omega, by go_num, rfl, by rw [HP.out]⟩
          case measure => simp [intOf]; omega
        · have hi1 : ¬ (j : Int) < (zs.length : Int) := by omega
          go_wp2_with fail
          go_ret
          exact ⟨by rw [HE.out]; rfl, rfl⟩
    · have r3 : 0 ≤ n := by omega
      have r2 : ¬ n ≤ 60 := by omega
      go_enter Try.func17, Try.ntmps17
      go_wp2_with fail
      go_loop [5, 6, 17] (fun s5 s6 s17 => ∃ j : Nat, j ≤ zs.length ∧ s17 = .int .i64 j ∧ s5 = .bool false ∧ s6 = .int .i64 (eprev zs j)) (fun _ _ s17 => zs.length - (intOf s17).toNat)
      case atStart => exact ⟨0, Nat.zero_le _, rfl, rfl, rfl⟩
      case round =>
        obtain ⟨j, hj, rfl, rfl, rfl⟩ := hrel
        by_cases hlt : j < zs.length
        · have hi1 : (j : Int) < (zs.length : Int) := by omega
          obtain ⟨ad, rfl, _, hc⟩ := hs.int hlt
          have HP : Hid (eprev zs (j + 1) = zat zs j) := rfl
          rw [← zat_get hlt] at hc
          generalize zat zs j = x at *
          generalize eprev zs j = y at *
          go_wp2_with fail
          go_round
          case rel => exact ⟨j + 1, by omega, by go_num, rfl, by rw [HP.out]⟩
          case measure => simp [intOf]; omega
        · have hi1 : ¬ (j : Int) < (zs.length : Int) := by omega
          go_wp2_with fail
          go_ret
          exact ⟨by rw [HE.out]; rfl, rfl⟩
end Go.Proofs.Ytmcbkjepjijfjaa
