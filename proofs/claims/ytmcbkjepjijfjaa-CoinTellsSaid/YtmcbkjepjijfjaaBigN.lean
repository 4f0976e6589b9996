/- Whole numbers in memory: the other sign, no sign, one bit. No condition. -/
import Derived.Test.YtmcbkjepjijfjaaBigE
namespace Go.Proofs.Ytmcbkjepjijfjaa
open Go.ChangeShapes Go.WideShapes Go.ChangeAt Go.RowKit

theorem SetOut.put {w w' : World} {g : Nat} {x y : Value} {b : Bool} {ds : List Nat} (h : SetOut w w' g 0 tI #[x, y] b ds) : ∃ A c, Blk w' g tI #[.bool b, .slice A ds.length c] ∧ ds.length ≤ c ∧ ds.length ≤ capMax ∧ Digs w' A ds ∧ w.grownBy w' (some g) := h
theorem IsZ.neg {b : Bool} {ds : List Nat} {z : Int} (h : IsZ b ds z) : IsZ (!b && decide (0 < ds.length)) ds (-z) := by
  have h0 := dv_zero h.2.1
  have h1 := h.2.2.2
  refine ⟨h.1, h.2.1, fun hh => ?_, ?_⟩
  · rw [Bool.and_eq_true, decide_eq_true_iff] at hh; omega
  · cases b
    · rw [if_neg (by decide)] at h1
      by_cases hl : 0 < ds.length
      · rw [decide_eq_true hl, if_pos (by rfl)]; omega
      · rw [decide_eq_false hl, if_neg (by decide)]; have := h0.2 (by omega); omega
    · rw [if_pos rfl] at h1
      rw [if_neg (by simp)]; omega
theorem IsZ.abs_ {b : Bool} {ds : List Nat} {z : Int} (h : IsZ b ds z) : IsZ false ds (z.natAbs : Int) :=
  ⟨h.1, h.2.1, (fun hh => by cases hh), by rw [if_neg (by decide), h.abs]⟩

end Go.Proofs.Ytmcbkjepjijfjaa
