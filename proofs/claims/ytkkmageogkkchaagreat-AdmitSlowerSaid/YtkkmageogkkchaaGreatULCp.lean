/- A system's copy; whether systems are the same, of two that are. No condition. -/
import Derived.Test.YtkkmageogkkchaaGreatULX
set_option linter.unusedSimpArgs false
set_option linter.unusedVariables false
set_option maxHeartbeats 1000000
namespace Go.Proofs.YtkkmageogkkchaaGreat
set_option maxRecDepth 100000
set_option maxRecDepth 100000
open Go.RowKit
end Go.Proofs.YtkkmageogkkchaaGreat
