/- Where all stands, by the document. No condition. -/
import Derived.Test.YtkkmageogkkchaaGreatUDX
import Derived.Test.YtkkmageogkkchaaGreatUDLy
set_option linter.unusedSimpArgs false
set_option linter.unusedVariables false
set_option maxHeartbeats 1000000
namespace Go.Proofs.YtkkmageogkkchaaGreat
set_option maxRecDepth 100000
set_option maxRecDepth 100000
open Go.RowKit
def headI (o : Object) : Int := if o.kind = 1 then 4 else if o.kind = 2 ∨ o.kind = 5 then 1 + (o.readers.length : Int) else if o.kind = 6 then 2 else 1
def recsI (o : Object) : Int := if o.kind = 1 then 4 else if o.kind = 2 then (o.readers.length : Int) + 2 else if o.kind = 3 then 1 else o.slots
end Go.Proofs.YtkkmageogkkchaaGreat
