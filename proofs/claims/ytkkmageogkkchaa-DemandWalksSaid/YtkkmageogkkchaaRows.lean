/-
  No cell of these rows narrows 'for every input' (looked for: loops, veiled, ifaces, maps, wideKeys, modest, calm, conditions, laid).
  DERIVED. THE GIVEN ROWS OF THIS SEAT. 9 by the template 'for every input the law returns true; each argument reads behind the call as it read before'; 0 by the template 'total and deterministic' (their statements: YtkkmageogkkchaaTotals.lean).
  GIVEN WITH THE SEED: the statements are not yours to turn. If you find one false, say at which input.
  Laid BY PROGRAM, IN A SANDBOX (cutbox-rows.mjs): the forced cells as the released guide's own fill.sh prints them over the translation b869aff9bea22218… (all of the seat's roots in one cut). By AI agents, Wed Nov 11 2026. No macro, syntax, notation, axiom, sorry.
-/
import Derived.Test.YtkkmageogkkchaaChecked
import GoSem.Claim
import GoSem.ClaimJoined
import GoSem.ClaimMapViews
import Derived.JoinedTies
import Derived.KernelRfl
namespace Go.Proofs.Ytkkmageogkkchaa
/- THE CELL 'sum', in the pinned program and in every row, IS THE sha256 OF THE DUMP (.gsa) THAT YtkkmageogkkchaaProg.lean LOADS. Nothing in Lean hashes anything: it is a label: what it is worth is what the hold of that sum in a sandbox is worth. -/
noncomputable def Try.pinned : Pinned := { name := "ytkkmageogkkchaa", sum := "b869aff9bea22218bcc8bd6049bf49fc76c672dd6b068f2e9587b81766a37e3c", checked := Try.checked }
namespace Rows
def none {H : Type} : Left H := { results := [], args := [] }

/-- 'coxswainlaw39.SizeEnough': WHATEVER THE INPUT: true; the input reads as it did. -/
def sizeEnoughSpec : ChangeSpec := { name := "sizeEnough", fn := fun _ => fun
  | [d1, d2, d3] => { results := [.lit (.bool true)], args := [d1, d2, d3] }
  | _ => none }
def sizeEnoughRow : OpenClaim := { program := "ytkkmageogkkchaa", sum := "b869aff9bea22218bcc8bd6049bf49fc76c672dd6b068f2e9587b81766a37e3c", func := "coxswain/coxswainlaw39.SizeEnough", spec := "sizeEnough", unfollowed := true, recurses := true, apart := false }
def SizeEnoughSaid : Prop := sizeEnoughRow.holds Try.pinned (OpenSpec.ofChange sizeEnoughSpec)

/-- ITS FALSE NEIGHBOUR: 'it returns false'. Refute it at one input. -/
def sizeEnoughWrong : ChangeSpec := { name := "sizeEnough", fn := fun _ => fun
  | [d1, d2, d3] => { results := [.lit (.bool false)], args := [d1, d2, d3] }
  | _ => none }
def SizeEnoughWrongFalsely : Prop := sizeEnoughRow.holds Try.pinned (OpenSpec.ofChange sizeEnoughWrong)

/-- 'coxswainlaw36.DemandCalls': WHATEVER THE INPUT: true; the input reads as it did. -/
def demandCallsSpec : ChangeSpec := { name := "demandCalls", fn := fun _ => fun
  | [d1, d2, d3] => { results := [.lit (.bool true)], args := [d1, d2, d3] }
  | _ => none }
def demandCallsRow : OpenClaim := { program := "ytkkmageogkkchaa", sum := "b869aff9bea22218bcc8bd6049bf49fc76c672dd6b068f2e9587b81766a37e3c", func := "coxswain/coxswainlaw36.DemandCalls", spec := "demandCalls", unfollowed := true, recurses := true, apart := false }
def DemandCallsSaid : Prop := demandCallsRow.holds Try.pinned (OpenSpec.ofChange demandCallsSpec)

/-- ITS FALSE NEIGHBOUR: 'it returns false'. Refute it at one input. -/
def demandCallsWrong : ChangeSpec := { name := "demandCalls", fn := fun _ => fun
  | [d1, d2, d3] => { results := [.lit (.bool false)], args := [d1, d2, d3] }
  | _ => none }
def DemandCallsWrongFalsely : Prop := demandCallsRow.holds Try.pinned (OpenSpec.ofChange demandCallsWrong)

/-- 'coxswainlaw36.DemandWalks': WHATEVER THE INPUT: true; the input reads as it did. -/
def demandWalksSpec : ChangeSpec := { name := "demandWalks", fn := fun _ => fun
  | [d1, d2, d3] => { results := [.lit (.bool true)], args := [d1, d2, d3] }
  | _ => none }
def demandWalksRow : OpenClaim := { program := "ytkkmageogkkchaa", sum := "b869aff9bea22218bcc8bd6049bf49fc76c672dd6b068f2e9587b81766a37e3c", func := "coxswain/coxswainlaw36.DemandWalks", spec := "demandWalks", unfollowed := true, recurses := true, apart := false }
def DemandWalksSaid : Prop := demandWalksRow.holds Try.pinned (OpenSpec.ofChange demandWalksSpec)

/-- ITS FALSE NEIGHBOUR: 'it returns false'. Refute it at one input. -/
def demandWalksWrong : ChangeSpec := { name := "demandWalks", fn := fun _ => fun
  | [d1, d2, d3] => { results := [.lit (.bool false)], args := [d1, d2, d3] }
  | _ => none }
def DemandWalksWrongFalsely : Prop := demandWalksRow.holds Try.pinned (OpenSpec.ofChange demandWalksWrong)

/-- 'coxswainlaw32.SystemChecks': WHATEVER THE INPUT: true; the input reads as it did. -/
def systemChecksSpec : ChangeSpec := { name := "systemChecks", fn := fun _ => fun
  | [d] => { results := [.lit (.bool true)], args := [d] }
  | _ => none }
def systemChecksRow : OpenClaim := { program := "ytkkmageogkkchaa", sum := "b869aff9bea22218bcc8bd6049bf49fc76c672dd6b068f2e9587b81766a37e3c", func := "coxswain/coxswainlaw32.SystemChecks", spec := "systemChecks", unfollowed := true, recurses := true, apart := false }
def SystemChecksSaid : Prop := systemChecksRow.holds Try.pinned (OpenSpec.ofChange systemChecksSpec)

/-- ITS FALSE NEIGHBOUR: 'it returns false'. Refute it at one input. -/
def systemChecksWrong : ChangeSpec := { name := "systemChecks", fn := fun _ => fun
  | [d] => { results := [.lit (.bool false)], args := [d] }
  | _ => none }
def SystemChecksWrongFalsely : Prop := systemChecksRow.holds Try.pinned (OpenSpec.ofChange systemChecksWrong)

/-- 'coxswainlaw32.SystemRoles': WHATEVER THE INPUT: true; the input reads as it did. -/
def systemRolesSpec : ChangeSpec := { name := "systemRoles", fn := fun _ => fun
  | [d1, d2, d3] => { results := [.lit (.bool true)], args := [d1, d2, d3] }
  | _ => none }
def systemRolesRow : OpenClaim := { program := "ytkkmageogkkchaa", sum := "b869aff9bea22218bcc8bd6049bf49fc76c672dd6b068f2e9587b81766a37e3c", func := "coxswain/coxswainlaw32.SystemRoles", spec := "systemRoles", unfollowed := true, recurses := true, apart := false }
def SystemRolesSaid : Prop := systemRolesRow.holds Try.pinned (OpenSpec.ofChange systemRolesSpec)

/-- ITS FALSE NEIGHBOUR: 'it returns false'. Refute it at one input. -/
def systemRolesWrong : ChangeSpec := { name := "systemRoles", fn := fun _ => fun
  | [d1, d2, d3] => { results := [.lit (.bool false)], args := [d1, d2, d3] }
  | _ => none }
def SystemRolesWrongFalsely : Prop := systemRolesRow.holds Try.pinned (OpenSpec.ofChange systemRolesWrong)

/-- 'coxswainlaw32.SystemCopies': WHATEVER THE INPUT: true; the input reads as it did. -/
def systemCopiesSpec : ChangeSpec := { name := "systemCopies", fn := fun _ => fun
  | [d1, d2] => { results := [.lit (.bool true)], args := [d1, d2] }
  | _ => none }
def systemCopiesRow : OpenClaim := { program := "ytkkmageogkkchaa", sum := "b869aff9bea22218bcc8bd6049bf49fc76c672dd6b068f2e9587b81766a37e3c", func := "coxswain/coxswainlaw32.SystemCopies", spec := "systemCopies", unfollowed := true, recurses := true, apart := false }
def SystemCopiesSaid : Prop := systemCopiesRow.holds Try.pinned (OpenSpec.ofChange systemCopiesSpec)

/-- ITS FALSE NEIGHBOUR: 'it returns false'. Refute it at one input. -/
def systemCopiesWrong : ChangeSpec := { name := "systemCopies", fn := fun _ => fun
  | [d1, d2] => { results := [.lit (.bool false)], args := [d1, d2] }
  | _ => none }
def SystemCopiesWrongFalsely : Prop := systemCopiesRow.holds Try.pinned (OpenSpec.ofChange systemCopiesWrong)

/-- 'coxswainlaw37.InterfereGrows': WHATEVER THE INPUT: true; the input reads as it did. -/
def interfereGrowsSpec : ChangeSpec := { name := "interfereGrows", fn := fun _ => fun
  | [d1, d2, d3] => { results := [.lit (.bool true)], args := [d1, d2, d3] }
  | _ => none }
def interfereGrowsRow : OpenClaim := { program := "ytkkmageogkkchaa", sum := "b869aff9bea22218bcc8bd6049bf49fc76c672dd6b068f2e9587b81766a37e3c", func := "coxswain/coxswainlaw37.InterfereGrows", spec := "interfereGrows", unfollowed := true, recurses := true, apart := false }
def InterfereGrowsSaid : Prop := interfereGrowsRow.holds Try.pinned (OpenSpec.ofChange interfereGrowsSpec)

/-- ITS FALSE NEIGHBOUR: 'it returns false'. Refute it at one input. -/
def interfereGrowsWrong : ChangeSpec := { name := "interfereGrows", fn := fun _ => fun
  | [d1, d2, d3] => { results := [.lit (.bool false)], args := [d1, d2, d3] }
  | _ => none }
def InterfereGrowsWrongFalsely : Prop := interfereGrowsRow.holds Try.pinned (OpenSpec.ofChange interfereGrowsWrong)

/-- 'coxswainlaw37.InterfereNone': WHATEVER THE INPUT: true; the input reads as it did. -/
def interfereNoneSpec : ChangeSpec := { name := "interfereNone", fn := fun _ => fun
  | [d1, d2, d3] => { results := [.lit (.bool true)], args := [d1, d2, d3] }
  | _ => none }
def interfereNoneRow : OpenClaim := { program := "ytkkmageogkkchaa", sum := "b869aff9bea22218bcc8bd6049bf49fc76c672dd6b068f2e9587b81766a37e3c", func := "coxswain/coxswainlaw37.InterfereNone", spec := "interfereNone", unfollowed := true, recurses := true, apart := false }
def InterfereNoneSaid : Prop := interfereNoneRow.holds Try.pinned (OpenSpec.ofChange interfereNoneSpec)

/-- ITS FALSE NEIGHBOUR: 'it returns false'. Refute it at one input. -/
def interfereNoneWrong : ChangeSpec := { name := "interfereNone", fn := fun _ => fun
  | [d1, d2, d3] => { results := [.lit (.bool false)], args := [d1, d2, d3] }
  | _ => none }
def InterfereNoneWrongFalsely : Prop := interfereNoneRow.holds Try.pinned (OpenSpec.ofChange interfereNoneWrong)

/-- 'coxswainlaw32.SystemCalls': WHATEVER THE INPUT: true; the input reads as it did. -/
def systemCallsSpec : ChangeSpec := { name := "systemCalls", fn := fun _ => fun
  | [d] => { results := [.lit (.bool true)], args := [d] }
  | _ => none }
def systemCallsRow : OpenClaim := { program := "ytkkmageogkkchaa", sum := "b869aff9bea22218bcc8bd6049bf49fc76c672dd6b068f2e9587b81766a37e3c", func := "coxswain/coxswainlaw32.SystemCalls", spec := "systemCalls", unfollowed := true, recurses := true, apart := false }
def SystemCallsSaid : Prop := systemCallsRow.holds Try.pinned (OpenSpec.ofChange systemCallsSpec)

/-- ITS FALSE NEIGHBOUR: 'it returns false'. Refute it at one input. -/
def systemCallsWrong : ChangeSpec := { name := "systemCalls", fn := fun _ => fun
  | [d] => { results := [.lit (.bool false)], args := [d] }
  | _ => none }
def SystemCallsWrongFalsely : Prop := systemCallsRow.holds Try.pinned (OpenSpec.ofChange systemCallsWrong)

/- THE SECOND FORM. 'bulk': how many values and letters a reading holds, each counted each time it is reached (what is shared counts as often as it is met; a slice's spare places count too). A statement '..UptoSaid' is the law's where the arguments, and the package variables that the reading takes, are together of bulk at most 1048576: NARROWER than '..Said'. Prove '..Said' where nothing that the law and all that it calls make is longer than what came in: it says more and counts as full. Else prove '..UptoSaid'. A law counts once. -/
mutual
def uptoBulk {H : Type} : DataW H → Nat
  | .lit (.string bytes) => bytes.length + 1
  | .lit _ => 1
  | .nil => 1
  | .ptr d => uptoBulk d + 1
  | .slice elems spare => uptoBulkAll elems + uptoBulkAll spare + 1
  | .agg parts => uptoBulkAll parts + 1
  | .iface _ d => uptoBulk d + 1
  | .map entries => uptoBulkEntries entries + 1
  | .held _ => 1
def uptoBulkAll {H : Type} : List (DataW H) → Nat
  | [] => 0
  | d :: r => uptoBulk d + uptoBulkAll r
def uptoBulkEntries {H : Type} : List (Lit × DataW H) → Nat
  | [] => 0
  | x :: r => uptoBulkEntry x + uptoBulkEntries r
def uptoBulkEntry {H : Type} : Lit × DataW H → Nat
  | (.string bytes, d) => bytes.length + uptoBulk d + 1
  | (_, d) => uptoBulk d + 1
 end
def uptoSmall : (H : Type) → List (DataW H) → Bool := fun _ ds => decide (uptoBulkAll ds ≤ 1048576)
def OpenSpec.upto (s : _root_.Go.ChangeSpec) : _root_.Go.OpenSpec := { _root_.Go.OpenSpec.ofChange s with cond := some uptoSmall }

/-- 'coxswainlaw39.SizeEnough', WHERE WHAT IT READS IS OF BULK AT MOST 1048576: true; the input reads as it did. -/
def sizeEnoughUptoRow : OpenClaim := { program := "ytkkmageogkkchaa", sum := "b869aff9bea22218bcc8bd6049bf49fc76c672dd6b068f2e9587b81766a37e3c", func := "coxswain/coxswainlaw39.SizeEnough", spec := "sizeEnough", unfollowed := true, recurses := true, apart := false, narrowed := true }
def SizeEnoughUptoSaid : Prop := sizeEnoughUptoRow.holds Try.pinned (OpenSpec.upto sizeEnoughSpec)

/-- 'coxswainlaw36.DemandCalls', WHERE WHAT IT READS IS OF BULK AT MOST 1048576: true; the input reads as it did. -/
def demandCallsUptoRow : OpenClaim := { program := "ytkkmageogkkchaa", sum := "b869aff9bea22218bcc8bd6049bf49fc76c672dd6b068f2e9587b81766a37e3c", func := "coxswain/coxswainlaw36.DemandCalls", spec := "demandCalls", unfollowed := true, recurses := true, apart := false, narrowed := true }
def DemandCallsUptoSaid : Prop := demandCallsUptoRow.holds Try.pinned (OpenSpec.upto demandCallsSpec)

/-- 'coxswainlaw36.DemandWalks', WHERE WHAT IT READS IS OF BULK AT MOST 1048576: true; the input reads as it did. -/
def demandWalksUptoRow : OpenClaim := { program := "ytkkmageogkkchaa", sum := "b869aff9bea22218bcc8bd6049bf49fc76c672dd6b068f2e9587b81766a37e3c", func := "coxswain/coxswainlaw36.DemandWalks", spec := "demandWalks", unfollowed := true, recurses := true, apart := false, narrowed := true }
def DemandWalksUptoSaid : Prop := demandWalksUptoRow.holds Try.pinned (OpenSpec.upto demandWalksSpec)

/-- 'coxswainlaw32.SystemChecks', WHERE WHAT IT READS IS OF BULK AT MOST 1048576: true; the input reads as it did. -/
def systemChecksUptoRow : OpenClaim := { program := "ytkkmageogkkchaa", sum := "b869aff9bea22218bcc8bd6049bf49fc76c672dd6b068f2e9587b81766a37e3c", func := "coxswain/coxswainlaw32.SystemChecks", spec := "systemChecks", unfollowed := true, recurses := true, apart := false, narrowed := true }
def SystemChecksUptoSaid : Prop := systemChecksUptoRow.holds Try.pinned (OpenSpec.upto systemChecksSpec)

/-- 'coxswainlaw32.SystemRoles', WHERE WHAT IT READS IS OF BULK AT MOST 1048576: true; the input reads as it did. -/
def systemRolesUptoRow : OpenClaim := { program := "ytkkmageogkkchaa", sum := "b869aff9bea22218bcc8bd6049bf49fc76c672dd6b068f2e9587b81766a37e3c", func := "coxswain/coxswainlaw32.SystemRoles", spec := "systemRoles", unfollowed := true, recurses := true, apart := false, narrowed := true }
def SystemRolesUptoSaid : Prop := systemRolesUptoRow.holds Try.pinned (OpenSpec.upto systemRolesSpec)

/-- 'coxswainlaw32.SystemCopies', WHERE WHAT IT READS IS OF BULK AT MOST 1048576: true; the input reads as it did. -/
def systemCopiesUptoRow : OpenClaim := { program := "ytkkmageogkkchaa", sum := "b869aff9bea22218bcc8bd6049bf49fc76c672dd6b068f2e9587b81766a37e3c", func := "coxswain/coxswainlaw32.SystemCopies", spec := "systemCopies", unfollowed := true, recurses := true, apart := false, narrowed := true }
def SystemCopiesUptoSaid : Prop := systemCopiesUptoRow.holds Try.pinned (OpenSpec.upto systemCopiesSpec)

/-- 'coxswainlaw37.InterfereGrows', WHERE WHAT IT READS IS OF BULK AT MOST 1048576: true; the input reads as it did. -/
def interfereGrowsUptoRow : OpenClaim := { program := "ytkkmageogkkchaa", sum := "b869aff9bea22218bcc8bd6049bf49fc76c672dd6b068f2e9587b81766a37e3c", func := "coxswain/coxswainlaw37.InterfereGrows", spec := "interfereGrows", unfollowed := true, recurses := true, apart := false, narrowed := true }
def InterfereGrowsUptoSaid : Prop := interfereGrowsUptoRow.holds Try.pinned (OpenSpec.upto interfereGrowsSpec)

/-- 'coxswainlaw37.InterfereNone', WHERE WHAT IT READS IS OF BULK AT MOST 1048576: true; the input reads as it did. -/
def interfereNoneUptoRow : OpenClaim := { program := "ytkkmageogkkchaa", sum := "b869aff9bea22218bcc8bd6049bf49fc76c672dd6b068f2e9587b81766a37e3c", func := "coxswain/coxswainlaw37.InterfereNone", spec := "interfereNone", unfollowed := true, recurses := true, apart := false, narrowed := true }
def InterfereNoneUptoSaid : Prop := interfereNoneUptoRow.holds Try.pinned (OpenSpec.upto interfereNoneSpec)

/-- 'coxswainlaw32.SystemCalls', WHERE WHAT IT READS IS OF BULK AT MOST 1048576: true; the input reads as it did. -/
def systemCallsUptoRow : OpenClaim := { program := "ytkkmageogkkchaa", sum := "b869aff9bea22218bcc8bd6049bf49fc76c672dd6b068f2e9587b81766a37e3c", func := "coxswain/coxswainlaw32.SystemCalls", spec := "systemCalls", unfollowed := true, recurses := true, apart := false, narrowed := true }
def SystemCallsUptoSaid : Prop := systemCallsUptoRow.holds Try.pinned (OpenSpec.upto systemCallsSpec)

end Rows
end Go.Proofs.Ytkkmageogkkchaa
