/- Package urns: Parts, Onto, Bell and Wrongly, walked. No condition. -/
import Derived.Test.YtmibifmabkaakaaDoorEOf
import Derived.Test.YtmibifmabkaakaaDoorUrnM
import Derived.StillTailTactics
import Derived.IntWalk
namespace Go.Proofs.YtmibifmabkaakaaDoor
open Go.ChangeShapes Go.WideShapes Go.ChangeAt Go.RowKit

/-- Is a number too great? -/
def uwrong (n k : Int) : Bool := decide (n < 0 ∨ 20 < n ∨ k < 0 ∨ 20 < k)
theorem ret_b {a b : Bool} (h : a = b) : Ending.returned (.bool a) = .returned (.bool b) := by rw [h]
theorem ret_2 {a b : Int} {r : Int × Int} (h : r = (a, b)) : Ending.returned (.tuple #[.int .i64 a, .int .i64 b]) = .returned (.tuple #[.int .i64 r.1, .int .i64 r.2]) := by rw [h]
theorem uwrong_no {n k : Int} (h : uwrong n k = false) : ∃ N K : Nat, n = N ∧ k = K ∧ N ≤ 20 ∧ K ≤ 20 := by
  have := of_decide_eq_false h
  exact ⟨n.toNat, k.toNat, by omega, by omega, by omega, by omega⟩

theorem made_set0 (w : World) (n : Nat) (v : Value) (f : Nat → Value) (hf : ∀ i, i < n → (if i = 0 then v else .int .i64 0) = f i) :
    (w.alloc (.cells ((madeCells #[.int .i64 0] n).setIfInBounds 0 v) 3)).rowIs w.heap.size 3 n f := by
  obtain ⟨c, hb, hs, hc⟩ := World.rowIs_made w (.int .i64 0) n 3
  have hcs : (madeCells #[.int .i64 0] n).size = n := size_madeCells _ _
  have := World.rowIs_alloc w ((madeCells #[.int .i64 0] n).setIfInBounds 0 v) 3 f (fun i hi => by
    have hi' : i < n := by simpa [hcs] using hi
    rw [Array.getElem?_setIfInBounds, ← hf i hi']
    by_cases h : 0 = i
    · subst h; rw [if_pos rfl, if_pos rfl, if_pos (by rw [hcs]; exact hi')]
    · rw [if_neg h, if_neg (fun e => h e.symm)]
      simp [madeCells, hi', Nat.mod_one])
  rwa [Array.size_setIfInBounds, hcs] at this
def uparts (n k : Int) : Int × Int := if uwrong n k then (0, 2) else ((stir n.toNat k.toNat : Nat), 0)
def uonto (n k : Int) : Int × Int := if uwrong n k = true ∨ 14 < n then (0, 2) else ((onto n.toNat k.toNat : Nat), 0)
/-- Onto, as far as its loop has come. -/
def opart (N K j : Nat) : Nat := stir N K * fct (j - 1)
theorem fct_pos (n : Nat) : 0 < fct n := by
  induction n with
  | zero => decide
  | succ n ih => exact Nat.mul_pos (by omega) ih
end Go.Proofs.YtmibifmabkaakaaDoor
