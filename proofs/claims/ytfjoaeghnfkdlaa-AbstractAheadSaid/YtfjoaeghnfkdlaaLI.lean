/- A list of integers as an element. No condition. -/
import Derived.Test.YtfjoaeghnfkdlaaAb1
import Derived.Test.YtfjoaeghnfkdlaaAvTop
namespace Go.Proofs.Ytfjoaeghnfkdlaa
set_option linter.unusedSimpArgs false
set_option linter.unusedVariables false
set_option maxRecDepth 100000
open Go.RowKit
theorem br_LI : Br (cSlice (cInt .i64) 1) eLI := fun w cs x ⟨A, c, h1, h2, h3, h4⟩ => by
  subst h1
  exact (L2.nil _).cons (br_row br_int (fun _ => rfl) h4 h2 h3)
end Go.Proofs.Ytfjoaeghnfkdlaa
