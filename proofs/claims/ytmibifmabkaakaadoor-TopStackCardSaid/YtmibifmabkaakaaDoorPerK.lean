/- The rank of an order, walked twice. No condition. -/
import Derived.Test.YtmibifmabkaakaaDoorPerR
import Derived.Test.YtmibifmabkaakaaDoorPerC
namespace Go.Proofs.YtmibifmabkaakaaDoor
open Go.ChangeShapes Go.WideShapes Go.ChangeAt Go.RowKit
set_option linter.unusedVariables false

theorem drk_step {p : List Int} {m : Nat} (h : p.length = m + 1) : drk p = lessn (p.drop 1) (pat p 0) m * fct m + drk (p.drop 1) := by
  have h1 := drk_drop (p := p) (k := 0) (by omega)
  rw [List.drop_zero] at h1
  rw [h1]
  unfold cN
  rw [h]
  rfl
end Go.Proofs.YtmibifmabkaakaaDoor
