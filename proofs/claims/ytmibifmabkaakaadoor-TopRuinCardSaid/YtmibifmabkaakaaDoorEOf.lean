/- The reference's EOf walked: PASCAL's triangle. No condition. -/
import Derived.Test.YtmibifmabkaakaaDoorBase2
import Derived.Test.YtmibifmabkaakaaDoorBinM
namespace Go.Proofs.YtmibifmabkaakaaDoor
open Go.ChangeShapes Go.WideShapes Go.ChangeAt Go.RowKit

/-- The next row of the triangle, when so many of the last one were added. -/
def nx (s j i : Nat) : Nat := (if i < j then bin s i else 0) + (if 1 ≤ i ∧ i ≤ j then bin s (i - 1) else 0)
theorem nx_zero (s i : Nat) : nx s 0 i = 0 := by unfold nx; rw [if_neg (by omega), if_neg (by omega)]
theorem nx_all (s i : Nat) (h : i ≤ s + 1) : nx s (s + 1) i = bin (s + 1) i := by
  unfold nx
  cases i with
  | zero => rw [if_pos (by omega), if_neg (by omega), bin_zero, bin_zero]
  | succ i =>
    rw [if_pos (show 1 ≤ i + 1 ∧ i + 1 ≤ s + 1 by omega), Nat.add_sub_cancel, bin_succ]
    by_cases hi : i + 1 < s + 1
    · rw [if_pos hi]; omega
    · rw [if_neg hi, bin_gt (show s < i + 1 by omega)]; omega
theorem nx_at (s j : Nat) : nx s j j = if 1 ≤ j then bin s (j - 1) else 0 := by
  unfold nx; rw [if_neg (by omega)]; simp
theorem nx_next (s j : Nat) : nx s j (j + 1) = 0 := by unfold nx; rw [if_neg (by omega), if_neg (by omega)]
theorem nx_step (s j i : Nat) : nx s (j + 1) i = if i = j + 1 then bin s j else if i = j then nx s j j + bin s j else nx s j i := by
  by_cases h1 : i = j + 1
  · subst h1
    rw [if_pos rfl]; unfold nx; rw [if_neg (by omega), if_pos (by omega), Nat.add_sub_cancel]; omega
  · rw [if_neg h1]
    by_cases h2 : i = j
    · subst h2
      rw [if_pos rfl, nx_at]
      unfold nx
      rw [if_pos (by omega)]
      by_cases h3 : 1 ≤ i
      · rw [if_pos (by omega), if_pos h3]; omega
      · rw [if_neg (by omega), if_neg h3]; omega
    · rw [if_neg h2]
      unfold nx
      by_cases h3 : i < j
      · rw [if_pos h3, if_pos (by omega)]
        by_cases h4 : 1 ≤ i
        · rw [if_pos (by omega), if_pos (by omega)]
        · rw [if_neg (by omega), if_neg (by omega)]
      · rw [if_neg h3, if_neg (by omega), if_neg (by omega), if_neg (by omega)]
theorem nx_small {s : Nat} (h : s ≤ 61) (j : Nat) : nx s j j ≤ 2305843009213693952 := by
  rw [nx_at]; split
  · exact bin_small h _
  · omega
theorem ret_i64 {a b : Int} (h : a = b) : Ending.returned (.int .i64 a) = .returned (.int .i64 b) := by rw [h]

end Go.Proofs.YtmibifmabkaakaaDoor
