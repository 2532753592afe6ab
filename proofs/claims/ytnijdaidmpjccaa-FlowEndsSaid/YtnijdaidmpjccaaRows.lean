/-
  No cell of these rows narrows 'for every input' (looked for: loops, veiled, ifaces, maps, wideKeys, modest, calm, conditions, laid).
  DERIVED. THE GIVEN ROWS OF THIS SEAT. 7 by the template 'for every input the law returns true; each argument reads behind the call as it read before'; 0 by the template 'total and deterministic' (their statements: YtnijdaidmpjccaaTotals.lean).
  GIVEN WITH THE SEED: the statements are not yours to turn. If you find one false, say at which input.
  Laid BY PROGRAM, IN A SANDBOX (cutbox-rows.mjs): the forced cells as the released guide's own fill.sh prints them over the translation b5df5f4f32ed3bfd… (all of the seat's roots in one cut). By AI agents, Wed Nov 11 2026. No macro, syntax, notation, axiom, sorry.
-/
import Derived.Test.YtnijdaidmpjccaaChecked
import GoSem.Claim
import GoSem.ClaimJoined
import GoSem.ClaimMapViews
import Derived.JoinedTies
import Derived.KernelRfl
namespace Go.Proofs.Ytnijdaidmpjccaa
/- THE CELL 'sum', in the pinned program and in every row, IS THE sha256 OF THE DUMP (.gsa) THAT YtnijdaidmpjccaaProg.lean LOADS. Nothing in Lean hashes anything: it is a label: what it is worth is what the hold of that sum in a sandbox is worth. -/
noncomputable def Try.pinned : Pinned := { name := "ytnijdaidmpjccaa", sum := "b5df5f4f32ed3bfd307a8d2ba745ce84788c89efca768584b0a9d4e325fc15d9", checked := Try.checked }
namespace Rows
def none {H : Type} : Left H := { results := [], args := [] }

/-- 'coxswainlaw26.TaskChain': WHATEVER THE INPUT: true; the input reads as it did. -/
def taskChainSpec : ChangeSpec := { name := "taskChain", fn := fun _ => fun
  | [d] => { results := [.lit (.bool true)], args := [d] }
  | _ => none }
def taskChainRow : OpenClaim := { program := "ytnijdaidmpjccaa", sum := "b5df5f4f32ed3bfd307a8d2ba745ce84788c89efca768584b0a9d4e325fc15d9", func := "coxswain/coxswainlaw26.TaskChain", spec := "taskChain", apart := false }
def TaskChainSaid : Prop := taskChainRow.holds Try.pinned (OpenSpec.ofChange taskChainSpec)

/-- ITS FALSE NEIGHBOUR: 'it returns false'. Refute it at one input. -/
def taskChainWrong : ChangeSpec := { name := "taskChain", fn := fun _ => fun
  | [d] => { results := [.lit (.bool false)], args := [d] }
  | _ => none }
def TaskChainWrongFalsely : Prop := taskChainRow.holds Try.pinned (OpenSpec.ofChange taskChainWrong)

/-- 'coxswainlaw26.TaskCopies': WHATEVER THE INPUT: true; the input reads as it did. -/
def taskCopiesSpec : ChangeSpec := { name := "taskCopies", fn := fun _ => fun
  | [d1, d2] => { results := [.lit (.bool true)], args := [d1, d2] }
  | _ => none }
def taskCopiesRow : OpenClaim := { program := "ytnijdaidmpjccaa", sum := "b5df5f4f32ed3bfd307a8d2ba745ce84788c89efca768584b0a9d4e325fc15d9", func := "coxswain/coxswainlaw26.TaskCopies", spec := "taskCopies", apart := false }
def TaskCopiesSaid : Prop := taskCopiesRow.holds Try.pinned (OpenSpec.ofChange taskCopiesSpec)

/-- ITS FALSE NEIGHBOUR: 'it returns false'. Refute it at one input. -/
def taskCopiesWrong : ChangeSpec := { name := "taskCopies", fn := fun _ => fun
  | [d1, d2] => { results := [.lit (.bool false)], args := [d1, d2] }
  | _ => none }
def TaskCopiesWrongFalsely : Prop := taskCopiesRow.holds Try.pinned (OpenSpec.ofChange taskCopiesWrong)

/-- 'coxswainlaw26.TaskFaults': WHATEVER THE INPUT: true; the input reads as it did. -/
def taskFaultsSpec : ChangeSpec := { name := "taskFaults", fn := fun _ => fun
  | [d] => { results := [.lit (.bool true)], args := [d] }
  | _ => none }
def taskFaultsRow : OpenClaim := { program := "ytnijdaidmpjccaa", sum := "b5df5f4f32ed3bfd307a8d2ba745ce84788c89efca768584b0a9d4e325fc15d9", func := "coxswain/coxswainlaw26.TaskFaults", spec := "taskFaults", unfollowed := true, recurses := true, apart := false }
def TaskFaultsSaid : Prop := taskFaultsRow.holds Try.pinned (OpenSpec.ofChange taskFaultsSpec)

/-- ITS FALSE NEIGHBOUR: 'it returns false'. Refute it at one input. -/
def taskFaultsWrong : ChangeSpec := { name := "taskFaults", fn := fun _ => fun
  | [d] => { results := [.lit (.bool false)], args := [d] }
  | _ => none }
def TaskFaultsWrongFalsely : Prop := taskFaultsRow.holds Try.pinned (OpenSpec.ofChange taskFaultsWrong)

/-- 'coxswainlaw26.TaskOrders': WHATEVER THE INPUT: true; the input reads as it did. -/
def taskOrdersSpec : ChangeSpec := { name := "taskOrders", fn := fun _ => fun
  | [d1, d2, d3] => { results := [.lit (.bool true)], args := [d1, d2, d3] }
  | _ => none }
def taskOrdersRow : OpenClaim := { program := "ytnijdaidmpjccaa", sum := "b5df5f4f32ed3bfd307a8d2ba745ce84788c89efca768584b0a9d4e325fc15d9", func := "coxswain/coxswainlaw26.TaskOrders", spec := "taskOrders", unfollowed := true, recurses := true, apart := false }
def TaskOrdersSaid : Prop := taskOrdersRow.holds Try.pinned (OpenSpec.ofChange taskOrdersSpec)

/-- ITS FALSE NEIGHBOUR: 'it returns false'. Refute it at one input. -/
def taskOrdersWrong : ChangeSpec := { name := "taskOrders", fn := fun _ => fun
  | [d1, d2, d3] => { results := [.lit (.bool false)], args := [d1, d2, d3] }
  | _ => none }
def TaskOrdersWrongFalsely : Prop := taskOrdersRow.holds Try.pinned (OpenSpec.ofChange taskOrdersWrong)

/-- 'coxswainlaw10.FlowChecks': WHATEVER THE INPUT: true; the input reads as it did. -/
def flowChecksSpec : ChangeSpec := { name := "flowChecks", fn := fun _ => fun
  | [d] => { results := [.lit (.bool true)], args := [d] }
  | _ => none }
def flowChecksRow : OpenClaim := { program := "ytnijdaidmpjccaa", sum := "b5df5f4f32ed3bfd307a8d2ba745ce84788c89efca768584b0a9d4e325fc15d9", func := "coxswain/coxswainlaw10.FlowChecks", spec := "flowChecks", unfollowed := true, recurses := true, apart := false }
def FlowChecksSaid : Prop := flowChecksRow.holds Try.pinned (OpenSpec.ofChange flowChecksSpec)

/-- ITS FALSE NEIGHBOUR: 'it returns false'. Refute it at one input. -/
def flowChecksWrong : ChangeSpec := { name := "flowChecks", fn := fun _ => fun
  | [d] => { results := [.lit (.bool false)], args := [d] }
  | _ => none }
def FlowChecksWrongFalsely : Prop := flowChecksRow.holds Try.pinned (OpenSpec.ofChange flowChecksWrong)

/-- 'coxswainlaw10.FlowEnds': WHATEVER THE INPUT: true; the input reads as it did. -/
def flowEndsSpec : ChangeSpec := { name := "flowEnds", fn := fun _ => fun
  | [d] => { results := [.lit (.bool true)], args := [d] }
  | _ => none }
def flowEndsRow : OpenClaim := { program := "ytnijdaidmpjccaa", sum := "b5df5f4f32ed3bfd307a8d2ba745ce84788c89efca768584b0a9d4e325fc15d9", func := "coxswain/coxswainlaw10.FlowEnds", spec := "flowEnds", unfollowed := true, recurses := true, apart := false }
def FlowEndsSaid : Prop := flowEndsRow.holds Try.pinned (OpenSpec.ofChange flowEndsSpec)

/-- ITS FALSE NEIGHBOUR: 'it returns false'. Refute it at one input. -/
def flowEndsWrong : ChangeSpec := { name := "flowEnds", fn := fun _ => fun
  | [d] => { results := [.lit (.bool false)], args := [d] }
  | _ => none }
def FlowEndsWrongFalsely : Prop := flowEndsRow.holds Try.pinned (OpenSpec.ofChange flowEndsWrong)

/-- 'coxswainlaw10.FlowTells': WHATEVER THE INPUT: true; the input reads as it did. -/
def flowTellsSpec : ChangeSpec := { name := "flowTells", fn := fun _ => fun
  | [d1, d2] => { results := [.lit (.bool true)], args := [d1, d2] }
  | _ => none }
def flowTellsRow : OpenClaim := { program := "ytnijdaidmpjccaa", sum := "b5df5f4f32ed3bfd307a8d2ba745ce84788c89efca768584b0a9d4e325fc15d9", func := "coxswain/coxswainlaw10.FlowTells", spec := "flowTells", unfollowed := true, recurses := true, apart := false }
def FlowTellsSaid : Prop := flowTellsRow.holds Try.pinned (OpenSpec.ofChange flowTellsSpec)

/-- ITS FALSE NEIGHBOUR: 'it returns false'. Refute it at one input. -/
def flowTellsWrong : ChangeSpec := { name := "flowTells", fn := fun _ => fun
  | [d1, d2] => { results := [.lit (.bool false)], args := [d1, d2] }
  | _ => none }
def FlowTellsWrongFalsely : Prop := flowTellsRow.holds Try.pinned (OpenSpec.ofChange flowTellsWrong)

/- THE SECOND FORM. 'bulk': how many values and letters a reading holds, each counted each time it is reached (what is shared counts as often as it is met; a slice's spare places count too). A statement '..UptoSaid' is the law's where the arguments, and the package variables that the reading takes, are together of bulk at most 1048576: NARROWER than '..Said'. Prove '..Said' where nothing that the law and all that it calls make is longer than what came in: it says more and counts as full. Else prove '..UptoSaid'. A law counts once. -/
mutual
def uptoBulk {H : Type} : DataW H → Nat
  | .lit (.string bytes) => bytes.length + 1
  | .lit _ => 1
  | .nil => 1
  | .ptr d => uptoBulk d + 1
  | .slice elems spare => uptoBulkAll elems + uptoBulkAll spare + 1
  | .agg parts => uptoBulkAll parts + 1
  | .iface _ d => uptoBulk d + 1
  | .map entries => uptoBulkEntries entries + 1
  | .held _ => 1
def uptoBulkAll {H : Type} : List (DataW H) → Nat
  | [] => 0
  | d :: r => uptoBulk d + uptoBulkAll r
def uptoBulkEntries {H : Type} : List (Lit × DataW H) → Nat
  | [] => 0
  | x :: r => uptoBulkEntry x + uptoBulkEntries r
def uptoBulkEntry {H : Type} : Lit × DataW H → Nat
  | (.string bytes, d) => bytes.length + uptoBulk d + 1
  | (_, d) => uptoBulk d + 1
 end
def uptoSmall : (H : Type) → List (DataW H) → Bool := fun _ ds => decide (uptoBulkAll ds ≤ 1048576)
def OpenSpec.upto (s : _root_.Go.ChangeSpec) : _root_.Go.OpenSpec := { _root_.Go.OpenSpec.ofChange s with cond := some uptoSmall }

/-- 'coxswainlaw26.TaskChain', WHERE WHAT IT READS IS OF BULK AT MOST 1048576: true; the input reads as it did. -/
def taskChainUptoRow : OpenClaim := { program := "ytnijdaidmpjccaa", sum := "b5df5f4f32ed3bfd307a8d2ba745ce84788c89efca768584b0a9d4e325fc15d9", func := "coxswain/coxswainlaw26.TaskChain", spec := "taskChain", apart := false, narrowed := true }
def TaskChainUptoSaid : Prop := taskChainUptoRow.holds Try.pinned (OpenSpec.upto taskChainSpec)

/-- 'coxswainlaw26.TaskCopies', WHERE WHAT IT READS IS OF BULK AT MOST 1048576: true; the input reads as it did. -/
def taskCopiesUptoRow : OpenClaim := { program := "ytnijdaidmpjccaa", sum := "b5df5f4f32ed3bfd307a8d2ba745ce84788c89efca768584b0a9d4e325fc15d9", func := "coxswain/coxswainlaw26.TaskCopies", spec := "taskCopies", apart := false, narrowed := true }
def TaskCopiesUptoSaid : Prop := taskCopiesUptoRow.holds Try.pinned (OpenSpec.upto taskCopiesSpec)

/-- 'coxswainlaw26.TaskFaults', WHERE WHAT IT READS IS OF BULK AT MOST 1048576: true; the input reads as it did. -/
def taskFaultsUptoRow : OpenClaim := { program := "ytnijdaidmpjccaa", sum := "b5df5f4f32ed3bfd307a8d2ba745ce84788c89efca768584b0a9d4e325fc15d9", func := "coxswain/coxswainlaw26.TaskFaults", spec := "taskFaults", unfollowed := true, recurses := true, apart := false, narrowed := true }
def TaskFaultsUptoSaid : Prop := taskFaultsUptoRow.holds Try.pinned (OpenSpec.upto taskFaultsSpec)

/-- 'coxswainlaw26.TaskOrders', WHERE WHAT IT READS IS OF BULK AT MOST 1048576: true; the input reads as it did. -/
def taskOrdersUptoRow : OpenClaim := { program := "ytnijdaidmpjccaa", sum := "b5df5f4f32ed3bfd307a8d2ba745ce84788c89efca768584b0a9d4e325fc15d9", func := "coxswain/coxswainlaw26.TaskOrders", spec := "taskOrders", unfollowed := true, recurses := true, apart := false, narrowed := true }
def TaskOrdersUptoSaid : Prop := taskOrdersUptoRow.holds Try.pinned (OpenSpec.upto taskOrdersSpec)

/-- 'coxswainlaw10.FlowChecks', WHERE WHAT IT READS IS OF BULK AT MOST 1048576: true; the input reads as it did. -/
def flowChecksUptoRow : OpenClaim := { program := "ytnijdaidmpjccaa", sum := "b5df5f4f32ed3bfd307a8d2ba745ce84788c89efca768584b0a9d4e325fc15d9", func := "coxswain/coxswainlaw10.FlowChecks", spec := "flowChecks", unfollowed := true, recurses := true, apart := false, narrowed := true }
def FlowChecksUptoSaid : Prop := flowChecksUptoRow.holds Try.pinned (OpenSpec.upto flowChecksSpec)

/-- 'coxswainlaw10.FlowEnds', WHERE WHAT IT READS IS OF BULK AT MOST 1048576: true; the input reads as it did. -/
def flowEndsUptoRow : OpenClaim := { program := "ytnijdaidmpjccaa", sum := "b5df5f4f32ed3bfd307a8d2ba745ce84788c89efca768584b0a9d4e325fc15d9", func := "coxswain/coxswainlaw10.FlowEnds", spec := "flowEnds", unfollowed := true, recurses := true, apart := false, narrowed := true }
def FlowEndsUptoSaid : Prop := flowEndsUptoRow.holds Try.pinned (OpenSpec.upto flowEndsSpec)

/-- 'coxswainlaw10.FlowTells', WHERE WHAT IT READS IS OF BULK AT MOST 1048576: true; the input reads as it did. -/
def flowTellsUptoRow : OpenClaim := { program := "ytnijdaidmpjccaa", sum := "b5df5f4f32ed3bfd307a8d2ba745ce84788c89efca768584b0a9d4e325fc15d9", func := "coxswain/coxswainlaw10.FlowTells", spec := "flowTells", unfollowed := true, recurses := true, apart := false, narrowed := true }
def FlowTellsUptoSaid : Prop := flowTellsUptoRow.holds Try.pinned (OpenSpec.upto flowTellsSpec)

end Rows
end Go.Proofs.Ytnijdaidmpjccaa
