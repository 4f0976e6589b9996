/- Orders: how many behind each place are less; one undone; two of them, walked. No condition. -/
import Derived.Test.YtmibifmabkaakaaDoorPerW
namespace Go.Proofs.YtmibifmabkaakaaDoor
open Go.ChangeShapes Go.WideShapes Go.ChangeAt Go.RowKit
set_option linter.unusedVariables false

end Go.Proofs.YtmibifmabkaakaaDoor
