/- BottomMixes: the law's function, walked. No condition. -/
import Derived.Test.YtkffakekakhgdaaBotW
import Derived.Test.YtkffakekakhgdaaBotX
namespace Go.Proofs.Ytkffakekakhgdaa
open Go.ChangeShapes Go.WideShapes Go.ChangeAt Go.RowKit
set_option linter.unusedVariables false

end Go.Proofs.Ytkffakekakhgdaa
