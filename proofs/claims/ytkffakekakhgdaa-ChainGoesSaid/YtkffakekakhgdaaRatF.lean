/- Fractions in memory: quotients, walked; how great the numbers of a fraction in lowest terms are. No condition but the size. -/
import Derived.Test.YtkffakekakhgdaaRatE
namespace Go.Proofs.Ytkffakekakhgdaa
open Go.ChangeShapes Go.WideShapes Go.ChangeAt Go.RowKit
set_option linter.unusedVariables false

theorem frN_le (a b : Int) : (frN a b).natAbs ≤ a.natAbs := by
  have h := tdiv_le a (Nat.gcd a.natAbs b.natAbs : Nat)
  unfold frN; split
  · rw [Int.natAbs_neg]; exact h
  · exact h
theorem frD_le (a b : Int) : (frD a b).natAbs ≤ b.natAbs := by
  have h := tdiv_le b (Nat.gcd a.natAbs b.natAbs : Nat)
  unfold frD; split
  · rw [Int.natAbs_neg]; exact h
  · exact h
theorem frD_pos {a b : Int} (h : b ≠ 0) : 0 < frD a b := by
  have h1 : (b.tdiv (Nat.gcd a.natAbs b.natAbs : Nat)).natAbs = b.natAbs / Nat.gcd a.natAbs b.natAbs := by rw [Int.natAbs_tdiv, Int.natAbs_natCast]; rfl
  have h2 : 0 < b.natAbs / Nat.gcd a.natAbs b.natAbs := Nat.div_pos (Nat.le_of_dvd (by omega) (Nat.gcd_dvd_right _ _)) (Nat.gcd_pos_of_pos_right _ (by omega))
  unfold frD; split <;> omega
end Go.Proofs.Ytkffakekakhgdaa
