/-
  No cell of these rows narrows 'for every input' (looked for: loops, veiled, ifaces, maps, wideKeys, modest, calm, conditions, laid).
  DERIVED. THE GIVEN ROWS OF THIS SEAT. 3 by the template 'for every input the law returns true; each argument reads behind the call as it read before'; 0 by the template 'total and deterministic' (their statements: YthmifkibfpcncaaTotals.lean).
  GIVEN WITH THE SEED: the statements are not yours to turn. If you find one false, say at which input.
  Laid BY PROGRAM, IN A SANDBOX (cutbox-rows.mjs): the forced cells as the released guide's own fill.sh prints them over the translation 91a57ccb10a4a292… (all of the seat's roots in one cut). By AI agents, Wed Nov 11 2026. No macro, syntax, notation, axiom, sorry.
-/
import Derived.Test.YthmifkibfpcncaaChecked
import GoSem.Claim
import GoSem.ClaimJoined
import GoSem.ClaimMapViews
import Derived.JoinedTies
import Derived.KernelRfl
namespace Go.Proofs.Ythmifkibfpcncaa
/- THE CELL 'sum', in the pinned program and in every row, IS THE sha256 OF THE DUMP (.gsa) THAT YthmifkibfpcncaaProg.lean LOADS. Nothing in Lean hashes anything: it is a label: what it is worth is what the hold of that sum in a sandbox is worth. -/
noncomputable def Try.pinned : Pinned := { name := "ythmifkibfpcncaa", sum := "91a57ccb10a4a292f9b61608a6b0913c59bdd05633b00a55d2673d87f5ca6fb2", checked := Try.checked }
namespace Rows
def none {H : Type} : Left H := { results := [], args := [] }

/-- 'coxswainlaw22.LinregChecks': WHATEVER THE INPUT: true; the input reads as it did. -/
def linregChecksSpec : ChangeSpec := { name := "linregChecks", fn := fun _ => fun
  | [d1, d2] => { results := [.lit (.bool true)], args := [d1, d2] }
  | _ => none }
def linregChecksRow : OpenClaim := { program := "ythmifkibfpcncaa", sum := "91a57ccb10a4a292f9b61608a6b0913c59bdd05633b00a55d2673d87f5ca6fb2", func := "coxswain/coxswainlaw22.LinregChecks", spec := "linregChecks", unfollowed := true, recurses := true, apart := false }
def LinregChecksSaid : Prop := linregChecksRow.holds Try.pinned (OpenSpec.ofChange linregChecksSpec)

/-- ITS FALSE NEIGHBOUR: 'it returns false'. Refute it at one input. -/
def linregChecksWrong : ChangeSpec := { name := "linregChecks", fn := fun _ => fun
  | [d1, d2] => { results := [.lit (.bool false)], args := [d1, d2] }
  | _ => none }
def LinregChecksWrongFalsely : Prop := linregChecksRow.holds Try.pinned (OpenSpec.ofChange linregChecksWrong)

/-- 'coxswainlaw22.LinregAssigns': WHATEVER THE INPUT: true; the input reads as it did. -/
def linregAssignsSpec : ChangeSpec := { name := "linregAssigns", fn := fun _ => fun
  | [d1, d2] => { results := [.lit (.bool true)], args := [d1, d2] }
  | _ => none }
def linregAssignsRow : OpenClaim := { program := "ythmifkibfpcncaa", sum := "91a57ccb10a4a292f9b61608a6b0913c59bdd05633b00a55d2673d87f5ca6fb2", func := "coxswain/coxswainlaw22.LinregAssigns", spec := "linregAssigns", unfollowed := true, recurses := true, apart := false }
def LinregAssignsSaid : Prop := linregAssignsRow.holds Try.pinned (OpenSpec.ofChange linregAssignsSpec)

/-- ITS FALSE NEIGHBOUR: 'it returns false'. Refute it at one input. -/
def linregAssignsWrong : ChangeSpec := { name := "linregAssigns", fn := fun _ => fun
  | [d1, d2] => { results := [.lit (.bool false)], args := [d1, d2] }
  | _ => none }
def LinregAssignsWrongFalsely : Prop := linregAssignsRow.holds Try.pinned (OpenSpec.ofChange linregAssignsWrong)

/-- 'coxswainlaw22.LinregLess': WHATEVER THE INPUT: true; the input reads as it did. -/
def linregLessSpec : ChangeSpec := { name := "linregLess", fn := fun _ => fun
  | [d1, d2, d3] => { results := [.lit (.bool true)], args := [d1, d2, d3] }
  | _ => none }
def linregLessRow : OpenClaim := { program := "ythmifkibfpcncaa", sum := "91a57ccb10a4a292f9b61608a6b0913c59bdd05633b00a55d2673d87f5ca6fb2", func := "coxswain/coxswainlaw22.LinregLess", spec := "linregLess", unfollowed := true, recurses := true, apart := false }
def LinregLessSaid : Prop := linregLessRow.holds Try.pinned (OpenSpec.ofChange linregLessSpec)

/-- ITS FALSE NEIGHBOUR: 'it returns false'. Refute it at one input. -/
def linregLessWrong : ChangeSpec := { name := "linregLess", fn := fun _ => fun
  | [d1, d2, d3] => { results := [.lit (.bool false)], args := [d1, d2, d3] }
  | _ => none }
def LinregLessWrongFalsely : Prop := linregLessRow.holds Try.pinned (OpenSpec.ofChange linregLessWrong)

/- THE SECOND FORM. 'bulk': how many values and letters a reading holds, each counted each time it is reached (what is shared counts as often as it is met; a slice's spare places count too). A statement '..UptoSaid' is the law's where the arguments, and the package variables that the reading takes, are together of bulk at most 1048576: NARROWER than '..Said'. Prove '..Said' where nothing that the law and all that it calls make is longer than what came in: it says more and counts as full. Else prove '..UptoSaid'. A law counts once. -/
mutual
def uptoBulk {H : Type} : DataW H → Nat
  | .lit (.string bytes) => bytes.length + 1
  | .lit _ => 1
  | .nil => 1
  | .ptr d => uptoBulk d + 1
  | .slice elems spare => uptoBulkAll elems + uptoBulkAll spare + 1
  | .agg parts => uptoBulkAll parts + 1
  | .iface _ d => uptoBulk d + 1
  | .map entries => uptoBulkEntries entries + 1
  | .held _ => 1
def uptoBulkAll {H : Type} : List (DataW H) → Nat
  | [] => 0
  | d :: r => uptoBulk d + uptoBulkAll r
def uptoBulkEntries {H : Type} : List (Lit × DataW H) → Nat
  | [] => 0
  | x :: r => uptoBulkEntry x + uptoBulkEntries r
def uptoBulkEntry {H : Type} : Lit × DataW H → Nat
  | (.string bytes, d) => bytes.length + uptoBulk d + 1
  | (_, d) => uptoBulk d + 1
 end
def uptoSmall : (H : Type) → List (DataW H) → Bool := fun _ ds => decide (uptoBulkAll ds ≤ 1048576)
def OpenSpec.upto (s : _root_.Go.ChangeSpec) : _root_.Go.OpenSpec := { _root_.Go.OpenSpec.ofChange s with cond := some uptoSmall }

/-- 'coxswainlaw22.LinregChecks', WHERE WHAT IT READS IS OF BULK AT MOST 1048576: true; the input reads as it did. -/
def linregChecksUptoRow : OpenClaim := { program := "ythmifkibfpcncaa", sum := "91a57ccb10a4a292f9b61608a6b0913c59bdd05633b00a55d2673d87f5ca6fb2", func := "coxswain/coxswainlaw22.LinregChecks", spec := "linregChecks", unfollowed := true, recurses := true, apart := false, narrowed := true }
def LinregChecksUptoSaid : Prop := linregChecksUptoRow.holds Try.pinned (OpenSpec.upto linregChecksSpec)

/-- 'coxswainlaw22.LinregAssigns', WHERE WHAT IT READS IS OF BULK AT MOST 1048576: true; the input reads as it did. -/
def linregAssignsUptoRow : OpenClaim := { program := "ythmifkibfpcncaa", sum := "91a57ccb10a4a292f9b61608a6b0913c59bdd05633b00a55d2673d87f5ca6fb2", func := "coxswain/coxswainlaw22.LinregAssigns", spec := "linregAssigns", unfollowed := true, recurses := true, apart := false, narrowed := true }
def LinregAssignsUptoSaid : Prop := linregAssignsUptoRow.holds Try.pinned (OpenSpec.upto linregAssignsSpec)

/-- 'coxswainlaw22.LinregLess', WHERE WHAT IT READS IS OF BULK AT MOST 1048576: true; the input reads as it did. -/
def linregLessUptoRow : OpenClaim := { program := "ythmifkibfpcncaa", sum := "91a57ccb10a4a292f9b61608a6b0913c59bdd05633b00a55d2673d87f5ca6fb2", func := "coxswain/coxswainlaw22.LinregLess", spec := "linregLess", unfollowed := true, recurses := true, apart := false, narrowed := true }
def LinregLessUptoSaid : Prop := linregLessUptoRow.holds Try.pinned (OpenSpec.upto linregLessSpec)

end Rows
end Go.Proofs.Ythmifkibfpcncaa
