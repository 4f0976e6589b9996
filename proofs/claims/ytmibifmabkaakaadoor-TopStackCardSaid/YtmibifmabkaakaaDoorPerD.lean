/- Orders: whether a list is one, by the reference, walked. No condition. -/
import Derived.Test.YtmibifmabkaakaaDoorPerM
import Derived.BigQuiet
import Derived.IntWalk
namespace Go.Proofs.YtmibifmabkaakaaDoor
open Go.ChangeShapes Go.WideShapes Go.ChangeAt Go.RowKit
set_option linter.unusedVariables false

theorem count_take {p : List Int} {i : Nat} (h : i < p.length) (x : Int) : (p.take (i + 1)).count x = (p.take i).count x + if pat p i = x then 1 else 0 := by
  rw [pat_take h, List.count_append, List.count_singleton]
  simp
end Go.Proofs.YtmibifmabkaakaaDoor
