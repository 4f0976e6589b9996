/- The reference's sum of the weights, at a length and a count in range. No condition. -/
import Derived.Test.YtmibifmabkaakaaDoorPpsX
namespace Go.Proofs.YtmibifmabkaakaaDoor
open Go.ChangeShapes Go.WideShapes Go.ChangeAt Go.RowKit

end Go.Proofs.YtmibifmabkaakaaDoor
