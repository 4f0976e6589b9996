/- Drawing one number, by the reference, walked. No condition. -/
import Derived.Test.YtmibifmabkaakaaDoorTapB
namespace Go.Proofs.YtmibifmabkaakaaDoor
open Go.ChangeShapes Go.WideShapes Go.ChangeAt Go.RowKit
set_option linter.unusedVariables false

end Go.Proofs.YtmibifmabkaakaaDoor
