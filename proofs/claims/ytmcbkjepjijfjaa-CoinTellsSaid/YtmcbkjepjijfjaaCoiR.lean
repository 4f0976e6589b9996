/- Fractions: may they be? walked twice. No condition. -/
import Derived.Test.YtmcbkjepjijfjaaCoiM
import Derived.Test.YtmcbkjepjijfjaaBase2
import Derived.BigQuiet
import Derived.IntWalk
namespace Go.Proofs.Ytmcbkjepjijfjaa
open Go.ChangeShapes Go.WideShapes Go.ChangeAt Go.RowKit
set_option linter.unusedVariables false

set_option maxRecDepth 20000 in
set_option maxHeartbeats 2000000 in
theorem coright_any (a b : Int) (w : World) :
    Calls Try.prog 55 #[FracV a b] w fun e w' => e = .returned (.bool (cok a b)) ∧ Below w.heap.size w w' := by
  have HT : Hid ((1 ≤ b ∧ b ≤ 1099511627776 ∧ 0 ≤ a ∧ a ≤ b) → cok a b = true) := fun h => decide_eq_true h
  have HF : Hid (¬ (1 ≤ b ∧ b ≤ 1099511627776 ∧ 0 ≤ a ∧ a ≤ b) → cok a b = false) := fun h => decide_eq_false h
  rcases (by omega : ¬ 1 ≤ b ∨ (1 ≤ b ∧ ¬ b ≤ 1099511627776) ∨ (1 ≤ b ∧ b ≤ 1099511627776 ∧ ¬ 0 ≤ a) ∨ (1 ≤ b ∧ b ≤ 1099511627776 ∧ 0 ≤ a ∧ ¬ a ≤ b) ∨ (1 ≤ b ∧ b ≤ 1099511627776 ∧ 0 ≤ a ∧ a ≤ b)) with h1 | ⟨h1, h2⟩ | ⟨h1, h2, h3⟩ | ⟨h1, h2, h3, h4⟩ | ⟨h1, h2, h3, h4⟩
  all_goals
    first
      | (have HC := Lib.hid (HF.out (by omega)))
      | (have HC := Lib.hid (HT.out (by omega)))
    go_enter Try.func55, Try.ntmps55
    go_wp2_with fail
    go_ret
    exact ⟨by rw [HC.out]; rfl, (Below.refl _ _).alloc (Nat.le_refl _) _⟩
set_option maxRecDepth 20000 in
set_option maxHeartbeats 2000000 in
theorem cright2_any (a b : Int) (w : World) :
    Calls Try.prog 56 #[FracV a b] w fun e w' => e = .returned (.bool (cok a b)) ∧ Below w.heap.size w w' := by
  have HT : Hid ((1 ≤ b ∧ b ≤ 1099511627776 ∧ 0 ≤ a ∧ a ≤ b) → cok a b = true) := fun h => decide_eq_true h
  have HF : Hid (¬ (1 ≤ b ∧ b ≤ 1099511627776 ∧ 0 ≤ a ∧ a ≤ b) → cok a b = false) := fun h => decide_eq_false h
  rcases (by omega : ¬ 0 ≤ a ∨ (0 ≤ a ∧ ¬ 0 < b) ∨ (0 ≤ a ∧ 0 < b ∧ ¬ a ≤ b) ∨ (0 ≤ a ∧ 0 < b ∧ a ≤ b ∧ ¬ b ≤ 1099511627776) ∨ (0 ≤ a ∧ 0 < b ∧ a ≤ b ∧ b ≤ 1099511627776)) with h1 | ⟨h1, h2⟩ | ⟨h1, h2, h3⟩ | ⟨h1, h2, h3, h4⟩ | ⟨h1, h2, h3, h4⟩
  all_goals
    first
      | (have HC := Lib.hid (HF.out (by omega)))
      | (have HC := Lib.hid (HT.out (by omega)))
    go_enter Try.func56, Try.ntmps56
    go_wp2_with fail
    go_ret
    exact ⟨by rw [HC.out]; rfl, (Below.refl _ _).alloc (Nat.le_refl _) _⟩
end Go.Proofs.Ytmcbkjepjijfjaa
