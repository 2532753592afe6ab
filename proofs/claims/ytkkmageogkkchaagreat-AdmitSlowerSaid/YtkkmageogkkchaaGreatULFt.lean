/- A system with what would do: size.Fit. No condition. -/
import Derived.Test.YtkkmageogkkchaaGreatULX
import Derived.Test.YtkkmageogkkchaaGreatULCp
import Derived.Test.YtkkmageogkkchaaGreatULPs
import Derived.Test.YtkkmageogkkchaaGreatULSz
set_option linter.unusedSimpArgs false
set_option linter.unusedVariables false
set_option maxHeartbeats 1000000
namespace Go.Proofs.YtkkmageogkkchaaGreat
set_option maxRecDepth 100000
set_option maxRecDepth 100000
open Go.RowKit
section
variable {n : Md} {s : Slots} {h : Heap}
end
def setSl (o : Object) (v : Int) : Object := ⟨o.kind, o.width, v, o.cap, o.start, o.init, o.writer, o.readers⟩
def setCp (o : Object) (v : Int) : Object := ⟨o.kind, o.width, o.slots, v, o.start, o.init, o.writer, o.readers⟩
def fitO (S : System) (R : List Int) (k : Nat) (o : Object) : Object :=
  { o with slots := if o.kind = 4 then max o.slots (slotsI S k R) else o.slots, cap := if 3 ≤ o.kind ∧ o.kind ≤ 5 then max o.cap (capsN S k R) else o.cap }
def fitN (S : System) (R : List Int) : Nat → List Object
  | 0 => S.objects
  | k + 1 => (fitN S R k).set k (fitO S R k (S.objects.getD k default))
def okN (S : System) (R : List Int) : Nat → Bool
  | 0 => true
  | k + 1 => okN S R k && (rightO (fitO S R k (S.objects.getD k default)) || !rightO (S.objects.getD k default))
def fitS (S : System) : System := if (allI S).e = 0 then ⟨S.tasks, fitN S (allI S).R S.objects.length⟩ else S
def fitB (S : System) : Bool := if (allI S).e = 0 then okN S (allI S).R S.objects.length else false
end Go.Proofs.YtkkmageogkkchaaGreat
