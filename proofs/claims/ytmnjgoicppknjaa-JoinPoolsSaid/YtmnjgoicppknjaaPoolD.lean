/- The reference's FAdd walked. No condition. -/
import Derived.Test.YtmnjgoicppknjaaPoolB
namespace Go.Proofs.Ytmnjgoicppknjaa
open Go.ChangeShapes Go.WideShapes Go.ChangeAt Go.RowKit

end Go.Proofs.Ytmnjgoicppknjaa
