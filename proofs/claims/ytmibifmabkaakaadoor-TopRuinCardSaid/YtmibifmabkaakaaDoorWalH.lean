/- The law WalkCounts: package walk's First and Catalan. No condition. -/
import Derived.Test.YtmibifmabkaakaaDoorWalG
namespace Go.Proofs.YtmibifmabkaakaaDoor
open Go.ChangeShapes Go.WideShapes Go.ChangeAt Go.RowKit
set_option linter.unusedVariables false

theorem aboveV_b {n : Nat} (h : n ≤ 56) (fr to : Int) : -72057594037927936 ≤ aboveV n fr to ∧ aboveV n fr to ≤ 72057594037927936 := by
  have h1 := ffr_b56 h (to - fr)
  have h2 := ffr_b56 h (to + fr)
  unfold aboveV; split <;> omega
theorem wr2_one {n : Nat} (h : n ≤ 56) : wrB n [1, 1] = false := by
  have hb : nB (n : Int) = false := by unfold nB; rw [decide_eq_false (by omega), decide_eq_false (by omega)]; rfl
  show ((nB (n : Int) || (decide ((1 : Int) < -100) || decide ((100 : Int) < 1))) || (decide ((1 : Int) < -100) || decide ((100 : Int) < 1))) = false
  rw [hb]; decide
theorem above_one (n : Nat) (h : n ≤ 56) (w : World) : Calls Tryd.prog 52 #[.int .i64 n, .int .i64 1, .int .i64 1] w (fun e w' => e = .returned (.tuple #[.int .i64 (aboveV n 1 1), .int .i64 0]) ∧ Below w.heap.size w w') := by
  refine (above_any n 1 1 w).mono ?_
  rintro e w' ⟨he, hb⟩
  rw [wr2_one h] at he
  exact ⟨by rw [he]; rfl, hb⟩
def catB (n : Int) : Bool := decide (n < 0) || decide (28 < n)
set_option maxRecDepth 20000 in
set_option maxHeartbeats 1000000 in
theorem catalan_any (n : Int) (w : World) : Calls Tryd.prog 13 #[.int .i64 n] w (WOut (catB n) (aboveV (2 * n.toNat) 1 1) w) := by
  rcases (by omega : n < 0 ∨ (¬ n < 0 ∧ 28 < n) ∨ (¬ n < 0 ∧ ¬ 28 < n)) with g | ⟨g, g2⟩ | ⟨g, g2⟩
  · have HV : Hid (catB n = true) := by unfold Hid catB; rw [decide_eq_true g]; rfl
    have b1 : decide (n < 0) = true := decide_eq_true g
    clear g
    go_enter Tryd.func13, Tryd.ntmps13
    go_wp2_with fail
    go_ret2
    exact ⟨by rw [HV.out]; rfl, Below.refl _ _⟩
  · have HV : Hid (catB n = true) := by unfold Hid catB; rw [decide_eq_true g2]; simp
    have b1 : decide (n < 0) = false := decide_eq_false g
    have b2 : decide (28 < n) = true := decide_eq_true g2
    clear g g2
    go_enter Tryd.func13, Tryd.ntmps13
    go_wp2_with fail
    go_ret2
    exact ⟨by rw [HV.out]; rfl, Below.refl _ _⟩
  · have HV : Hid (catB n = false) := by unfold Hid catB; rw [decide_eq_false g, decide_eq_false g2]; rfl
    obtain ⟨N, rfl⟩ : ∃ N : Nat, n = N := ⟨n.toNat, by omega⟩
    have b1 : decide ((N : Int) < 0) = false := decide_eq_false g
    have b2 : decide (28 < (N : Int)) = false := decide_eq_false g2
    have b3 : decide (28 < N) = false := decide_eq_false (by omega)
    have e1 : 2 * (N : Int) = ((2 * N : Nat) : Int) := by omega
    have hN : N ≤ 28 := by omega
    have HN := Lib.hid hN
    have KA := above_one (2 * N) (by omega) w
    rw [← e1] at KA
    have H1 := Lib.hid KA
    clear g g2 KA e1
    go_enter Tryd.func13, Tryd.ntmps13
    go_wp2_with fail
    refine H1.out.mono ?_
    rintro e w2 ⟨rfl, hb2⟩
    have HB2 := Lib.hid hb2
    clear hb2
    go_wp2_with fail
    go_ret2
    exact ⟨by rw [HV.out, Int.toNat_natCast]; rfl, HB2.out⟩
end Go.Proofs.YtmibifmabkaakaaDoor
