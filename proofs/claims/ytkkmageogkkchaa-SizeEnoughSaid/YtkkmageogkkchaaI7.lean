/- The document's answer for layer 37; the statement InterfereTells. No condition. -/
import Derived.Test.YtkkmageogkkchaaIf
namespace Go.Proofs.Ytkkmageogkkchaa
set_option linter.unusedSimpArgs false
set_option linter.unusedVariables false
set_option maxRecDepth 100000
set_option linter.unusedSimpArgs false
set_option linter.unusedVariables false
set_option maxRecDepth 100000
open Go.RowKit
end Go.Proofs.Ytkkmageogkkchaa
