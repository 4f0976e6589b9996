/- The order of a rank, by the reference, walked. No condition. -/
import Derived.Test.YtmibifmabkaakaaDoorPerK
import Derived.Test.YtmibifmabkaakaaDoorMapB
import Derived.Test.YtmibifmabkaakaaDoorApp
namespace Go.Proofs.YtmibifmabkaakaaDoor
open Go.ChangeShapes Go.WideShapes Go.ChangeAt Go.RowKit
set_option linter.unusedVariables false

end Go.Proofs.YtmibifmabkaakaaDoor
