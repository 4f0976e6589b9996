/- Package stats: Right walked. No condition. -/
import Derived.Test.YtmnjgoicppknjaaBase2
import Derived.IntWalk
namespace Go.Proofs.Ytmnjgoicppknjaa
open Go.ChangeShapes Go.WideShapes Go.ChangeAt Go.RowKit
set_option linter.unusedVariables false

/-- Moments as a value. -/
abbrev MomV (N S Q : Int) : Value := .agg #[.int .i64 N, .int .i64 S, .int .i64 Q]
/-- May moments be those of some numbers? -/
def mok (N S Q : Int) : Prop := 0 ≤ N ∧ N ≤ 1024 ∧ -(N * 1048576) ≤ S ∧ S ≤ N * 1048576 ∧ 0 ≤ Q ∧ Q ≤ N * 1048576 * 1048576 ∧ S * S ≤ N * Q ∧ (S - Q) % 2 = 0
instance (N S Q : Int) : Decidable (mok N S Q) := by unfold mok; infer_instance
theorem ret_mb {a b : Bool} (h : a = b) : Ending.returned (.bool a) = .returned (.bool b) := by rw [h]
theorem sq_bound {S B : Int} (h1 : -B ≤ S) (h2 : S ≤ B) (hB : 0 ≤ B) : 0 ≤ S * S ∧ S * S ≤ B * B := by
  refine ⟨?_, ?_⟩
  · rcases Int.le_total 0 S with h | h
    · exact Int.mul_nonneg h h
    · have := Int.mul_nonneg (a := -S) (b := -S) (by omega) (by omega)
      rwa [Int.neg_mul_neg] at this
  · rcases Int.le_total 0 S with h | h
    · exact Int.mul_le_mul h2 h2 h hB
    · have : -S * -S ≤ B * B := Int.mul_le_mul (by omega) (by omega) (by omega) hB
      rwa [Int.neg_mul_neg] at this
theorem tmod2 (a : Int) : a.tmod 2 = 0 ↔ a % 2 = 0 := by
  rcases Int.le_total 0 a with h | h
  · rw [Int.tmod_eq_emod_of_nonneg h]
  · obtain ⟨b, rfl⟩ : ∃ b, a = -b := ⟨-a, by omega⟩
    rw [Int.neg_tmod, Int.tmod_eq_emod_of_nonneg (by omega)]
    omega
theorem mok_bounds {N S Q : Int} (h0 : 0 ≤ N) (h1 : N ≤ 1024) (h2 : -(N * 1048576) ≤ S) (h3 : S ≤ N * 1048576) (h4 : 0 ≤ Q) (h5 : Q ≤ N * 1048576 * 1048576) :
    0 ≤ S * S ∧ S * S ≤ 1152921504606846976 ∧ 0 ≤ N * Q ∧ N * Q ≤ 1152921504606846976 := by
  obtain ⟨a, b⟩ := sq_bound (S := S) (B := 1073741824) (by omega) (by omega) (by decide)
  refine ⟨a, by omega, Int.mul_nonneg h0 h4, ?_⟩
  have : N * Q ≤ 1024 * 1125899906842624 := Int.mul_le_mul h1 (by omega) h4 (by decide)
  omega
end Go.Proofs.Ytmnjgoicppknjaa
