/- The members of a set, one after the other: the iterator, and who is picked. No condition. -/
import Derived.Test.YtfjoaeghnfkdlaaTz
import Derived.Test.YtfjoaeghnfkdlaaAvTop
import Derived.Test.YtfjoaeghnfkdlaaAvI2
namespace Go.Proofs.Ytfjoaeghnfkdlaa
set_option linter.unusedSimpArgs false
set_option linter.unusedVariables false
set_option maxRecDepth 100000
set_option linter.unusedSimpArgs false
set_option linter.unusedVariables false
set_option maxRecDepth 100000
open Go.RowKit

def ρp (i : Nat) : Nat := [11, 10, 2, 3, 4, 5, 6, 9, 21, 22].getD i i
/-- What is known while the rounds of a loop over a set are gone through. -/
abbrev setH (l : Nat) (r : Loop) (σ0 : Sig) (m : Nat) (rest : Heap) : Heap := (8, .sem (objC l (.loop r))) :: (9, .sem (knowC σ0)) :: (0, .blk 152 [.int .u64 m]) :: rest
end Go.Proofs.Ytfjoaeghnfkdlaa
