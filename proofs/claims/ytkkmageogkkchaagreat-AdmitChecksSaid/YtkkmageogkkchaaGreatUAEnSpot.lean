/- The struct Spot, over abstract values. No condition. -/
import Derived.Test.YtkkmageogkkchaaGreatUAX
import Derived.Test.YtkkmageogkkchaaGreatUATySpot
set_option linter.unusedSimpArgs false
set_option linter.unusedVariables false
set_option maxHeartbeats 1000000
namespace Go.Proofs.YtkkmageogkkchaaGreat
set_option maxRecDepth 100000
open Go.RowKit
def eSpot (x : Spot) : List AV := [.int .i64 x.task, .int .i64 x.object, .int .i64 x.at_]
end Go.Proofs.YtkkmageogkkchaaGreat
