/- The reference's SamePool walked. No condition. -/
import Derived.Test.YtmibifmabkaakaaDoorPoolB
namespace Go.Proofs.YtmibifmabkaakaaDoor
open Go.ChangeShapes Go.WideShapes Go.ChangeAt Go.RowKit

theorem take_step_i (zs ys : List Int) (j : Nat) (h1 : j < zs.length) (h2 : j < ys.length) (h : zs.take j = ys.take j) (e : zs[j] = ys[j]) : zs.take (j + 1) = ys.take (j + 1) := by
  rw [List.take_succ_eq_append_getElem h1, List.take_succ_eq_append_getElem h2, h, e]
theorem ret_bool {a b : Bool} (h : a = b) : Ending.returned (.bool a) = .returned (.bool b) := by rw [h]

theorem PoolIs.below {w w' : World} {v : Value} {p : Int × Int × List Int} (h : PoolIs w v p) (hb : Below w.heap.size w w') : PoolIs w' v p := by
  obtain ⟨A, c, e, hs⟩ := h
  exact ⟨A, c, e, hs.below hb⟩
end Go.Proofs.YtmibifmabkaakaaDoor
