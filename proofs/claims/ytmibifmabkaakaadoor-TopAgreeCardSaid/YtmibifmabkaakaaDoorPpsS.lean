/- Share walked. No condition. -/
import Derived.Test.YtmibifmabkaakaaDoorPpsL
namespace Go.Proofs.YtmibifmabkaakaaDoor
open Go.ChangeShapes Go.WideShapes Go.ChangeAt Go.RowKit

end Go.Proofs.YtmibifmabkaakaaDoor
