/- slices.Equal at slices of structs of three numbers, walked. No condition. -/
import Derived.Test.YtaehehoeidnidaaQuaM
namespace Go.Proofs.Ytaehehoeidnidaa
open Go.ChangeShapes Go.WideShapes Go.ChangeAt Go.RowKit
set_option linter.unusedVariables false

theorem take_step_rks (zs ys : List Rk) (j : Nat) (h1 : j < zs.length) (h2 : j < ys.length) (h : zs.take j = ys.take j) (e : kat zs j = kat ys j) : zs.take (j + 1) = ys.take (j + 1) := by
  rw [kat_get h1, kat_get h2] at e
  rw [List.take_succ_eq_append_getElem h1, List.take_succ_eq_append_getElem h2, h, e]
set_option maxRecDepth 20000 in
set_option maxHeartbeats 2000000 in
theorem eq_rks (zs ys : List Rk) (A C : Option Addr) (c d B : Nat) (w : World) (hs : Seg w B A (flat3 zs)) (ht : Seg w B C (flat3 ys)) (hm : zs.length ≤ 9223372036854775807) :
    Calls Try.prog 89 #[.slice A zs.length c, .slice C ys.length d] w fun e w' => e = .returned (.bool (decide (zs = ys))) ∧ ∃ n, w' = w.drewN n := by
  by_cases hl : zs.length = ys.length
  · have b0 : ((zs.length : Int) != (ys.length : Int)) = false := by rw [hl]; simp
    have HL := Lib.hid hl
    have hle : zs.length ≤ ys.length := by omega
    clear hl
    go_enter Try.func89, Try.ntmps89
    go_wp2
    go_loopw [13] (fun i wr => ∃ j : Nat, j ≤ zs.length ∧ i = .int .i64 j ∧ Hid (zs.take j = ys.take j) ∧ ∃ n, wr = w.drewN n) (fun i _ => zs.length - (intOf i).toNat)
    case atStart => exact ⟨0, Nat.zero_le _, rfl, rfl, 0, rfl⟩
    case round =>
      obtain ⟨j, hj, rfl, hp, n, rfl⟩ := hrel
      by_cases hlt : j < zs.length
      · have hlt2 : j < ys.length := by omega
        have hi1 : (j : Int) < (zs.length : Int) := by omega
        have hi2 : (j : Int) < (ys.length : Int) := by omega
        obtain ⟨ad, rfl, _, hc, hd, hd3⟩ := hs.trip hlt
        obtain ⟨ae, rfl, _, hc2, hd2, hd23⟩ := ht.trip hlt2
        have hstep := Lib.hid (take_step_rks zs ys j hlt hlt2 hp.out)
        have hnot : Hid (kat zs j ≠ kat ys j → decide (zs = ys) = false) := fun h => decide_eq_false (fun h1 => h (by rw [h1]))
        have HX : Hid ((kat zs j).1 = (kat ys j).1 → (kat zs j).2.1 = (kat ys j).2.1 → (kat zs j).2.2 = (kat ys j).2.2 → kat zs j = kat ys j) := fun a b c => Prod.ext a (Prod.ext b c)
        have HY : Hid (kat zs j = kat ys j → (kat zs j).1 = (kat ys j).1 ∧ (kat zs j).2.1 = (kat ys j).2.1 ∧ (kat zs j).2.2 = (kat ys j).2.2) := fun a => by rw [a]; exact ⟨rfl, rfl, rfl⟩
        generalize kat zs j = P at *
        generalize kat ys j = Q at *
        generalize P.1 = x at *
        generalize P.2.1 = x2 at *
        generalize P.2.2 = x3 at *
        generalize Q.1 = y at *
        generalize Q.2.1 = y2 at *
        generalize Q.2.2 = y3 at *
        by_cases he : x = y ∧ x2 = y2 ∧ x3 = y3
        · obtain ⟨rfl, rfl, rfl⟩ := he
          go_wp2
          go_quiet (fail)
          go_wp2
          go_roundw
          case rel => exact ⟨j + 1, by omega, by go_num, hstep.out (HX.out (by trivial) (by trivial) (by trivial)), _, rfl⟩
          case measure => simp [intOf]; omega
        · have hne : Hid (decide (zs = ys) = false) := hnot.out fun h => he (HY.out h)
          rcases (by omega : x ≠ y ∨ (x = y ∧ x2 ≠ y2) ∨ (x = y ∧ x2 = y2 ∧ x3 ≠ y3)) with h1 | ⟨rfl, h1⟩ | ⟨rfl, rfl, h1⟩
          · have b1 : (x == y) = false := by simpa using h1
            have b2 : (x = y) = False := eq_false h1
            clear he hstep h1 hnot HX HY
            go_wp2
            go_quiet (fail)
            go_wp2
            go_ret
            exact ⟨by rw [hne.out]; rfl, n + nq, by rw [World.drewN_drewN]⟩
          · have b1 : (x2 == y2) = false := by simpa using h1
            have b2 : (x2 = y2) = False := eq_false h1
            clear he hstep h1 hnot HX HY
            go_wp2
            go_quiet (fail)
            go_wp2
            go_ret
            exact ⟨by rw [hne.out]; rfl, n + nq, by rw [World.drewN_drewN]⟩
          · have b1 : (x3 == y3) = false := by simpa using h1
            have b2 : (x3 = y3) = False := eq_false h1
            clear he hstep h1 hnot HX HY
            go_wp2
            go_quiet (fail)
            go_wp2
            go_ret
            exact ⟨by rw [hne.out]; rfl, n + nq, by rw [World.drewN_drewN]⟩
      · have heq : Hid (decide (zs = ys) = true) := by
          refine decide_eq_true ?_
          have h1 := hp.out
          rw [List.take_of_length_le (by omega), List.take_of_length_le (by have := HL.out; omega)] at h1
          exact h1
        go_wp2
        go_ret
        exact ⟨by rw [heq.out]; rfl, _, rfl⟩
  · have b0 : ((zs.length : Int) != (ys.length : Int)) = true := by simp; omega
    have hne : Hid (decide (zs = ys) = false) := decide_eq_false (fun h => hl (by rw [h]))
    clear hl
    go_enter Try.func89, Try.ntmps89
    go_wp2
    go_ret
    exact ⟨by rw [hne.out]; rfl, 0, rfl⟩
end Go.Proofs.Ytaehehoeidnidaa
