/- The law WalkCounts: package walk's First and Catalan. No condition. -/
import Derived.Test.YtaehehoeidnidaaWalG
namespace Go.Proofs.Ytaehehoeidnidaa
open Go.ChangeShapes Go.WideShapes Go.ChangeAt Go.RowKit
set_option linter.unusedVariables false

theorem aboveV_b {n : Nat} (h : n ≤ 56) (fr to : Int) : -72057594037927936 ≤ aboveV n fr to ∧ aboveV n fr to ≤ 72057594037927936 := by
  have h1 := ffr_b56 h (to - fr)
  have h2 := ffr_b56 h (to + fr)
  unfold aboveV; split <;> omega
theorem wr2_one {n : Nat} (h : n ≤ 56) : wrB n [1, 1] = false := by
  have hb : nB (n : Int) = false := by unfold nB; rw [decide_eq_false (by omega), decide_eq_false (by omega)]; rfl
  show ((nB (n : Int) || (decide ((1 : Int) < -100) || decide ((100 : Int) < 1))) || (decide ((1 : Int) < -100) || decide ((100 : Int) < 1))) = false
  rw [hb]; decide
theorem above_one (n : Nat) (h : n ≤ 56) (w : World) : Calls Try.prog 16 #[.int .i64 n, .int .i64 1, .int .i64 1] w (fun e w' => e = .returned (.tuple #[.int .i64 (aboveV n 1 1), .int .i64 0]) ∧ Below w.heap.size w w') := by
  refine (above_any n 1 1 w).mono ?_
  rintro e w' ⟨he, hb⟩
  rw [wr2_one h] at he
  exact ⟨by rw [he]; rfl, hb⟩
set_option maxRecDepth 20000 in
set_option maxHeartbeats 1000000 in
theorem first_any (n : Int) (w : World) : Calls Try.prog 18 #[.int .i64 n] w (WOut (wrB n []) (firstV n.toNat) w) := by
  have K1 := wwrong_any n none [] 0 w Seg.nil (by simp)
  cases hb : wrB n [] with
  | true =>
    rw [hb] at K1
    have H1 := Lib.hid K1
    clear K1 hb
    go_enter Try.func18, Try.ntmps18
    go_wp2_with fail
    refine H1.out.mono ?_
    rintro e w1 ⟨rfl, rfl⟩
    go_wp2_with fail
    go_ret2
    exact ⟨rfl, Below.refl _ _⟩
  | false =>
    rw [hb] at K1
    have H1 := Lib.hid K1
    obtain ⟨h1, h2⟩ := nB_ok (show nB n = false from hb)
    obtain ⟨N, rfl⟩ : ∃ N : Nat, n = N := ⟨n.toNat, by omega⟩
    have HN := Lib.hid h2
    have hem : (N : Int).tmod 2 = ((N % 2 : Nat) : Int) := by rw [Int.tmod_eq_emod_of_nonneg (by omega)]; rfl
    clear K1 hb h1
    rcases (by omega : N < 2 ∨ (¬ N < 2 ∧ N % 2 = 1) ∨ (¬ N < 2 ∧ N % 2 = 0)) with g | ⟨g, g2⟩ | ⟨g, g2⟩
    · have HV : Hid (firstV N = 0) := if_pos (.inl g)
      have b1 : decide ((N : Int) < 2) = true := decide_eq_true (by omega)
      have b1' : decide (N < 2) = true := decide_eq_true (by omega)
      clear g hem
      go_enter Try.func18, Try.ntmps18
      go_wp2_with fail
      refine H1.out.mono ?_
      rintro e w1 ⟨rfl, rfl⟩
      go_wp2_with fail
      go_ret2
      exact ⟨by rw [Int.toNat_natCast, HV.out]; rfl, Below.refl _ _⟩
    · have HV : Hid (firstV N = 0) := if_pos (.inr g2)
      have b1 : decide ((N : Int) < 2) = false := decide_eq_false (by omega)
      have b1' : decide (N < 2) = false := decide_eq_false (by omega)
      rw [g2] at hem
      have b2 : ((N : Int).tmod 2 == 1) = true := by rw [hem]; rfl
      have b3 : ((N : Int) % 2 == 1) = true := by rw [← Int.tmod_eq_emod_of_nonneg (by omega)]; exact b2
      clear g g2 hem
      go_enter Try.func18, Try.ntmps18
      go_wp2_with fail
      refine H1.out.mono ?_
      rintro e w1 ⟨rfl, rfl⟩
      go_wp2_with fail
      go_ret2
      exact ⟨by rw [Int.toNat_natCast, HV.out]; rfl, Below.refl _ _⟩
    · obtain ⟨M, rfl⟩ : ∃ M : Nat, N = M + 2 := ⟨N - 2, by omega⟩
      have HV : Hid (firstV (M + 2) = 2 * aboveV M 1 1) := by unfold Hid firstV; rw [if_neg (by omega)]; rfl
      have b1 : decide ((M : Int) + 2 < 2) = false := decide_eq_false (by omega)
      rw [g2] at hem
      rw [show ((M + 2 : Nat) : Int) = (M : Int) + 2 from rfl] at *
      have b2 : (((M : Int) + 2).tmod 2 == 1) = false := by rw [hem]; rfl
      have b3 : (((M : Int) + 2) % 2 == 1) = false := by rw [← Int.tmod_eq_emod_of_nonneg (by omega)]; exact b2
      have e1 : (M : Int) + 2 - 2 = (M : Int) := by omega
      have hM : M ≤ 56 := by omega
      have HM := Lib.hid hM
      have q := aboveV_b hM 1 1
      obtain ⟨x, hx⟩ : ∃ x, x = aboveV M 1 1 := ⟨_, rfl⟩
      rw [← hx] at q HV
      have HX := Lib.hid hx
      obtain ⟨q1, q2⟩ := q
      clear g g2 hem hx
      go_enter Try.func18, Try.ntmps18
      go_wp2_with fail
      refine H1.out.mono ?_
      rintro e w1 ⟨rfl, rfl⟩
      go_wp2_with fail
      refine (above_one M HM.out w).mono ?_
      rintro e w2 ⟨rfl, hb2⟩
      have HB2 := Lib.hid hb2
      rw [← HX.out]
      clear hb2
      go_wp2_with fail
      go_ret2
      refine ⟨?_, HB2.out⟩
      rw [show ((M : Int) + 2).toNat = M + 2 by omega, HV.out]; rfl
def catB (n : Int) : Bool := decide (n < 0) || decide (28 < n)
set_option maxRecDepth 20000 in
set_option maxHeartbeats 1000000 in
theorem catalan_any (n : Int) (w : World) : Calls Try.prog 19 #[.int .i64 n] w (WOut (catB n) (aboveV (2 * n.toNat) 1 1) w) := by
  rcases (by omega : n < 0 ∨ (¬ n < 0 ∧ 28 < n) ∨ (¬ n < 0 ∧ ¬ 28 < n)) with g | ⟨g, g2⟩ | ⟨g, g2⟩
  · have HV : Hid (catB n = true) := by unfold Hid catB; rw [decide_eq_true g]; rfl
    have b1 : decide (n < 0) = true := decide_eq_true g
    clear g
    go_enter Try.func19, Try.ntmps19
    go_wp2_with fail
    go_ret2
    exact ⟨by rw [HV.out]; rfl, Below.refl _ _⟩
  · have HV : Hid (catB n = true) := by unfold Hid catB; rw [decide_eq_true g2]; simp
    have b1 : decide (n < 0) = false := decide_eq_false g
    have b2 : decide (28 < n) = true := decide_eq_true g2
    clear g g2
    go_enter Try.func19, Try.ntmps19
    go_wp2_with fail
    go_ret2
    exact ⟨by rw [HV.out]; rfl, Below.refl _ _⟩
  · have HV : Hid (catB n = false) := by unfold Hid catB; rw [decide_eq_false g, decide_eq_false g2]; rfl
    obtain ⟨N, rfl⟩ : ∃ N : Nat, n = N := ⟨n.toNat, by omega⟩
    have b1 : decide ((N : Int) < 0) = false := decide_eq_false g
    have b2 : decide (28 < (N : Int)) = false := decide_eq_false g2
    have b3 : decide (28 < N) = false := decide_eq_false (by omega)
    have e1 : 2 * (N : Int) = ((2 * N : Nat) : Int) := by omega
    have hN : N ≤ 28 := by omega
    have HN := Lib.hid hN
    have KA := above_one (2 * N) (by omega) w
    rw [← e1] at KA
    have H1 := Lib.hid KA
    clear g g2 KA e1
    go_enter Try.func19, Try.ntmps19
    go_wp2_with fail
    refine H1.out.mono ?_
    rintro e w2 ⟨rfl, hb2⟩
    have HB2 := Lib.hid hb2
    clear hb2
    go_wp2_with fail
    go_ret2
    exact ⟨by rw [HV.out, Int.toNat_natCast]; rfl, HB2.out⟩
end Go.Proofs.Ytaehehoeidnidaa
