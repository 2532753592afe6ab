/- How many slots, and attempts, would do; the statement SizeTells. No condition. -/
import Derived.Test.YtkkmageogkkchaaGreatULX
set_option linter.unusedSimpArgs false
set_option linter.unusedVariables false
set_option maxHeartbeats 1000000
namespace Go.Proofs.YtkkmageogkkchaaGreat
set_option maxRecDepth 100000
set_option maxRecDepth 100000
open Go.RowKit
def tickI (rs : List Int) (i : Int) : Int := if i < 0 ∨ (rs.length : Int) ≤ i then 0 else rs.getD i.toNat default
def mxL (g : Int → Int) (l : List Int) : Int := l.foldl (fun n i => max n (g i)) 0
def slotsI (S : System) (k : Int) (rs : List Int) : Int := if k < 0 ∨ (S.objects.length : Int) ≤ k ∨ (S.objects.getD k.toNat default).kind ≠ 4 then 0 else mxL (fun i => writesI S i k (tickI rs i)) (S.objects.getD k.toNat default).readers + 2
def capsN (S : System) (k : Int) (rs : List Int) : Int := if k < 0 ∨ (S.objects.length : Int) ≤ k ∨ ¬ (3 ≤ (S.objects.getD k.toNat default).kind ∧ (S.objects.getD k.toNat default).kind ≤ 5) then 0 else mxL (fun i => failsI S i k (tickI rs i)) (S.objects.getD k.toNat default).readers + 1
def oa39 : Object := ⟨4, 1, 2, 1, 0, [1], 0, []⟩
def ob39 : Object := ⟨3, 1, 0, 1, 0, [1], 0, []⟩
end Go.Proofs.YtkkmageogkkchaaGreat
