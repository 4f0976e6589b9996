/- Sums of weights of package pps, and the reference's, walked. No condition. -/
import Derived.Test.YtmibifmabkaakaaDoorPpsW
namespace Go.Proofs.YtmibifmabkaakaaDoor
open Go.ChangeShapes Go.WideShapes Go.ChangeAt Go.RowKit

end Go.Proofs.YtmibifmabkaakaaDoor
