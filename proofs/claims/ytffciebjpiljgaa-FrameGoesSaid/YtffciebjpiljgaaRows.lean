/-
  No cell of these rows narrows 'for every input' (looked for: loops, veiled, ifaces, maps, wideKeys, modest, calm, conditions, laid).
  DERIVED. THE GIVEN ROWS OF THIS SEAT. 10 by the template 'for every input the law returns true; each argument reads behind the call as it read before'; 0 by the template 'total and deterministic' (their statements: YtffciebjpiljgaaTotals.lean).
  GIVEN WITH THE SEED: the statements are not yours to turn. If you find one false, say at which input.
  Laid BY PROGRAM, IN A SANDBOX (cutbox-rows.mjs): the forced cells as the released guide's own fill.sh prints them over the translation 3ceb494ce596e3e4… (all of the seat's roots in one cut). By AI agents, Wed Nov 11 2026. No macro, syntax, notation, axiom, sorry.
-/
import Derived.Test.YtffciebjpiljgaaChecked
import GoSem.Claim
import GoSem.ClaimJoined
import GoSem.ClaimMapViews
import Derived.JoinedTies
import Derived.KernelRfl
namespace Go.Proofs.Ytffciebjpiljgaa
/- THE CELL 'sum', in the pinned program and in every row, IS THE sha256 OF THE DUMP (.gsa) THAT YtffciebjpiljgaaProg.lean LOADS. Nothing in Lean hashes anything: it is a label: what it is worth is what the hold of that sum in a sandbox is worth. -/
noncomputable def Try.pinned : Pinned := { name := "ytffciebjpiljgaa", sum := "3ceb494ce596e3e49908cb7920ff3c45100ce312409fb782511d27775e36b05f", checked := Try.checked }
namespace Rows
def none {H : Type} : Left H := { results := [], args := [] }

/-- 'coxswainlaw12.CostTells': WHATEVER THE INPUT: true; the input reads as it did. -/
def costTellsSpec : ChangeSpec := { name := "costTells", fn := fun _ => fun
  | [d1, d2] => { results := [.lit (.bool true)], args := [d1, d2] }
  | _ => none }
def costTellsRow : OpenClaim := { program := "ytffciebjpiljgaa", sum := "3ceb494ce596e3e49908cb7920ff3c45100ce312409fb782511d27775e36b05f", func := "coxswain/coxswainlaw12.CostTells", spec := "costTells", unfollowed := true, recurses := true, apart := false }
def CostTellsSaid : Prop := costTellsRow.holds Try.pinned (OpenSpec.ofChange costTellsSpec)

/-- ITS FALSE NEIGHBOUR: 'it returns false'. Refute it at one input. -/
def costTellsWrong : ChangeSpec := { name := "costTells", fn := fun _ => fun
  | [d1, d2] => { results := [.lit (.bool false)], args := [d1, d2] }
  | _ => none }
def CostTellsWrongFalsely : Prop := costTellsRow.holds Try.pinned (OpenSpec.ofChange costTellsWrong)

/-- 'coxswainlaw12.CostGrows': WHATEVER THE INPUT: true; the input reads as it did. -/
def costGrowsSpec : ChangeSpec := { name := "costGrows", fn := fun _ => fun
  | [d1, d2, d3] => { results := [.lit (.bool true)], args := [d1, d2, d3] }
  | _ => none }
def costGrowsRow : OpenClaim := { program := "ytffciebjpiljgaa", sum := "3ceb494ce596e3e49908cb7920ff3c45100ce312409fb782511d27775e36b05f", func := "coxswain/coxswainlaw12.CostGrows", spec := "costGrows", unfollowed := true, recurses := true, apart := false }
def CostGrowsSaid : Prop := costGrowsRow.holds Try.pinned (OpenSpec.ofChange costGrowsSpec)

/-- ITS FALSE NEIGHBOUR: 'it returns false'. Refute it at one input. -/
def costGrowsWrong : ChangeSpec := { name := "costGrows", fn := fun _ => fun
  | [d1, d2, d3] => { results := [.lit (.bool false)], args := [d1, d2, d3] }
  | _ => none }
def CostGrowsWrongFalsely : Prop := costGrowsRow.holds Try.pinned (OpenSpec.ofChange costGrowsWrong)

/-- 'coxswainlaw12.CostWalks': WHATEVER THE INPUT: true; the input reads as it did. -/
def costWalksSpec : ChangeSpec := { name := "costWalks", fn := fun _ => fun
  | [d1, d2, d3] => { results := [.lit (.bool true)], args := [d1, d2, d3] }
  | _ => none }
def costWalksRow : OpenClaim := { program := "ytffciebjpiljgaa", sum := "3ceb494ce596e3e49908cb7920ff3c45100ce312409fb782511d27775e36b05f", func := "coxswain/coxswainlaw12.CostWalks", spec := "costWalks", unfollowed := true, recurses := true, apart := false }
def CostWalksSaid : Prop := costWalksRow.holds Try.pinned (OpenSpec.ofChange costWalksSpec)

/-- ITS FALSE NEIGHBOUR: 'it returns false'. Refute it at one input. -/
def costWalksWrong : ChangeSpec := { name := "costWalks", fn := fun _ => fun
  | [d1, d2, d3] => { results := [.lit (.bool false)], args := [d1, d2, d3] }
  | _ => none }
def CostWalksWrongFalsely : Prop := costWalksRow.holds Try.pinned (OpenSpec.ofChange costWalksWrong)

/-- 'coxswainlaw11.PathsWalks': WHATEVER THE INPUT: true; the input reads as it did. -/
def pathsWalksSpec : ChangeSpec := { name := "pathsWalks", fn := fun _ => fun
  | [d1, d2, d3] => { results := [.lit (.bool true)], args := [d1, d2, d3] }
  | _ => none }
def pathsWalksRow : OpenClaim := { program := "ytffciebjpiljgaa", sum := "3ceb494ce596e3e49908cb7920ff3c45100ce312409fb782511d27775e36b05f", func := "coxswain/coxswainlaw11.PathsWalks", spec := "pathsWalks", unfollowed := true, recurses := true, apart := false }
def PathsWalksSaid : Prop := pathsWalksRow.holds Try.pinned (OpenSpec.ofChange pathsWalksSpec)

/-- ITS FALSE NEIGHBOUR: 'it returns false'. Refute it at one input. -/
def pathsWalksWrong : ChangeSpec := { name := "pathsWalks", fn := fun _ => fun
  | [d1, d2, d3] => { results := [.lit (.bool false)], args := [d1, d2, d3] }
  | _ => none }
def PathsWalksWrongFalsely : Prop := pathsWalksRow.holds Try.pinned (OpenSpec.ofChange pathsWalksWrong)

/-- 'coxswainlaw11.PathsCounts': WHATEVER THE INPUT: true; the input reads as it did. -/
def pathsCountsSpec : ChangeSpec := { name := "pathsCounts", fn := fun _ => fun
  | [d] => { results := [.lit (.bool true)], args := [d] }
  | _ => none }
def pathsCountsRow : OpenClaim := { program := "ytffciebjpiljgaa", sum := "3ceb494ce596e3e49908cb7920ff3c45100ce312409fb782511d27775e36b05f", func := "coxswain/coxswainlaw11.PathsCounts", spec := "pathsCounts", unfollowed := true, recurses := true, apart := false }
def PathsCountsSaid : Prop := pathsCountsRow.holds Try.pinned (OpenSpec.ofChange pathsCountsSpec)

/-- ITS FALSE NEIGHBOUR: 'it returns false'. Refute it at one input. -/
def pathsCountsWrong : ChangeSpec := { name := "pathsCounts", fn := fun _ => fun
  | [d] => { results := [.lit (.bool false)], args := [d] }
  | _ => none }
def PathsCountsWrongFalsely : Prop := pathsCountsRow.holds Try.pinned (OpenSpec.ofChange pathsCountsWrong)

/-- 'coxswainlaw11.PathsOften': WHATEVER THE INPUT: true; the input reads as it did. -/
def pathsOftenSpec : ChangeSpec := { name := "pathsOften", fn := fun _ => fun
  | [d1, d2, d3] => { results := [.lit (.bool true)], args := [d1, d2, d3] }
  | _ => none }
def pathsOftenRow : OpenClaim := { program := "ytffciebjpiljgaa", sum := "3ceb494ce596e3e49908cb7920ff3c45100ce312409fb782511d27775e36b05f", func := "coxswain/coxswainlaw11.PathsOften", spec := "pathsOften", unfollowed := true, recurses := true, apart := false }
def PathsOftenSaid : Prop := pathsOftenRow.holds Try.pinned (OpenSpec.ofChange pathsOftenSpec)

/-- ITS FALSE NEIGHBOUR: 'it returns false'. Refute it at one input. -/
def pathsOftenWrong : ChangeSpec := { name := "pathsOften", fn := fun _ => fun
  | [d1, d2, d3] => { results := [.lit (.bool false)], args := [d1, d2, d3] }
  | _ => none }
def PathsOftenWrongFalsely : Prop := pathsOftenRow.holds Try.pinned (OpenSpec.ofChange pathsOftenWrong)

/-- 'coxswainlaw13.FramePasses': WHATEVER THE INPUT: true; the input reads as it did. -/
def framePassesSpec : ChangeSpec := { name := "framePasses", fn := fun _ => fun
  | [d1, d2] => { results := [.lit (.bool true)], args := [d1, d2] }
  | _ => none }
def framePassesRow : OpenClaim := { program := "ytffciebjpiljgaa", sum := "3ceb494ce596e3e49908cb7920ff3c45100ce312409fb782511d27775e36b05f", func := "coxswain/coxswainlaw13.FramePasses", spec := "framePasses", unfollowed := true, recurses := true, apart := false }
def FramePassesSaid : Prop := framePassesRow.holds Try.pinned (OpenSpec.ofChange framePassesSpec)

/-- ITS FALSE NEIGHBOUR: 'it returns false'. Refute it at one input. -/
def framePassesWrong : ChangeSpec := { name := "framePasses", fn := fun _ => fun
  | [d1, d2] => { results := [.lit (.bool false)], args := [d1, d2] }
  | _ => none }
def FramePassesWrongFalsely : Prop := framePassesRow.holds Try.pinned (OpenSpec.ofChange framePassesWrong)

/-- 'coxswainlaw13.FrameRuns': WHATEVER THE INPUT: true; the input reads as it did. -/
def frameRunsSpec : ChangeSpec := { name := "frameRuns", fn := fun _ => fun
  | [d1, d2] => { results := [.lit (.bool true)], args := [d1, d2] }
  | _ => none }
def frameRunsRow : OpenClaim := { program := "ytffciebjpiljgaa", sum := "3ceb494ce596e3e49908cb7920ff3c45100ce312409fb782511d27775e36b05f", func := "coxswain/coxswainlaw13.FrameRuns", spec := "frameRuns", unfollowed := true, recurses := true, apart := false }
def FrameRunsSaid : Prop := frameRunsRow.holds Try.pinned (OpenSpec.ofChange frameRunsSpec)

/-- ITS FALSE NEIGHBOUR: 'it returns false'. Refute it at one input. -/
def frameRunsWrong : ChangeSpec := { name := "frameRuns", fn := fun _ => fun
  | [d1, d2] => { results := [.lit (.bool false)], args := [d1, d2] }
  | _ => none }
def FrameRunsWrongFalsely : Prop := frameRunsRow.holds Try.pinned (OpenSpec.ofChange frameRunsWrong)

/-- 'coxswainlaw13.FrameSteps': WHATEVER THE INPUT: true; the input reads as it did. -/
def frameStepsSpec : ChangeSpec := { name := "frameSteps", fn := fun _ => fun
  | [d] => { results := [.lit (.bool true)], args := [d] }
  | _ => none }
def frameStepsRow : OpenClaim := { program := "ytffciebjpiljgaa", sum := "3ceb494ce596e3e49908cb7920ff3c45100ce312409fb782511d27775e36b05f", func := "coxswain/coxswainlaw13.FrameSteps", spec := "frameSteps", unfollowed := true, recurses := true, apart := false }
def FrameStepsSaid : Prop := frameStepsRow.holds Try.pinned (OpenSpec.ofChange frameStepsSpec)

/-- ITS FALSE NEIGHBOUR: 'it returns false'. Refute it at one input. -/
def frameStepsWrong : ChangeSpec := { name := "frameSteps", fn := fun _ => fun
  | [d] => { results := [.lit (.bool false)], args := [d] }
  | _ => none }
def FrameStepsWrongFalsely : Prop := frameStepsRow.holds Try.pinned (OpenSpec.ofChange frameStepsWrong)

/-- 'coxswainlaw13.FrameGoes': WHATEVER THE INPUT: true; the input reads as it did. -/
def frameGoesSpec : ChangeSpec := { name := "frameGoes", fn := fun _ => fun
  | [d] => { results := [.lit (.bool true)], args := [d] }
  | _ => none }
def frameGoesRow : OpenClaim := { program := "ytffciebjpiljgaa", sum := "3ceb494ce596e3e49908cb7920ff3c45100ce312409fb782511d27775e36b05f", func := "coxswain/coxswainlaw13.FrameGoes", spec := "frameGoes", unfollowed := true, recurses := true, apart := false }
def FrameGoesSaid : Prop := frameGoesRow.holds Try.pinned (OpenSpec.ofChange frameGoesSpec)

/-- ITS FALSE NEIGHBOUR: 'it returns false'. Refute it at one input. -/
def frameGoesWrong : ChangeSpec := { name := "frameGoes", fn := fun _ => fun
  | [d] => { results := [.lit (.bool false)], args := [d] }
  | _ => none }
def FrameGoesWrongFalsely : Prop := frameGoesRow.holds Try.pinned (OpenSpec.ofChange frameGoesWrong)

/- THE SECOND FORM. 'bulk': how many values and letters a reading holds, each counted each time it is reached (what is shared counts as often as it is met; a slice's spare places count too). A statement '..UptoSaid' is the law's where the arguments, and the package variables that the reading takes, are together of bulk at most 1048576: NARROWER than '..Said'. Prove '..Said' where nothing that the law and all that it calls make is longer than what came in: it says more and counts as full. Else prove '..UptoSaid'. A law counts once. -/
mutual
def uptoBulk {H : Type} : DataW H → Nat
  | .lit (.string bytes) => bytes.length + 1
  | .lit _ => 1
  | .nil => 1
  | .ptr d => uptoBulk d + 1
  | .slice elems spare => uptoBulkAll elems + uptoBulkAll spare + 1
  | .agg parts => uptoBulkAll parts + 1
  | .iface _ d => uptoBulk d + 1
  | .map entries => uptoBulkEntries entries + 1
  | .held _ => 1
def uptoBulkAll {H : Type} : List (DataW H) → Nat
  | [] => 0
  | d :: r => uptoBulk d + uptoBulkAll r
def uptoBulkEntries {H : Type} : List (Lit × DataW H) → Nat
  | [] => 0
  | x :: r => uptoBulkEntry x + uptoBulkEntries r
def uptoBulkEntry {H : Type} : Lit × DataW H → Nat
  | (.string bytes, d) => bytes.length + uptoBulk d + 1
  | (_, d) => uptoBulk d + 1
 end
def uptoSmall : (H : Type) → List (DataW H) → Bool := fun _ ds => decide (uptoBulkAll ds ≤ 1048576)
def OpenSpec.upto (s : _root_.Go.ChangeSpec) : _root_.Go.OpenSpec := { _root_.Go.OpenSpec.ofChange s with cond := some uptoSmall }

/-- 'coxswainlaw12.CostTells', WHERE WHAT IT READS IS OF BULK AT MOST 1048576: true; the input reads as it did. -/
def costTellsUptoRow : OpenClaim := { program := "ytffciebjpiljgaa", sum := "3ceb494ce596e3e49908cb7920ff3c45100ce312409fb782511d27775e36b05f", func := "coxswain/coxswainlaw12.CostTells", spec := "costTells", unfollowed := true, recurses := true, apart := false, narrowed := true }
def CostTellsUptoSaid : Prop := costTellsUptoRow.holds Try.pinned (OpenSpec.upto costTellsSpec)

/-- 'coxswainlaw12.CostGrows', WHERE WHAT IT READS IS OF BULK AT MOST 1048576: true; the input reads as it did. -/
def costGrowsUptoRow : OpenClaim := { program := "ytffciebjpiljgaa", sum := "3ceb494ce596e3e49908cb7920ff3c45100ce312409fb782511d27775e36b05f", func := "coxswain/coxswainlaw12.CostGrows", spec := "costGrows", unfollowed := true, recurses := true, apart := false, narrowed := true }
def CostGrowsUptoSaid : Prop := costGrowsUptoRow.holds Try.pinned (OpenSpec.upto costGrowsSpec)

/-- 'coxswainlaw12.CostWalks', WHERE WHAT IT READS IS OF BULK AT MOST 1048576: true; the input reads as it did. -/
def costWalksUptoRow : OpenClaim := { program := "ytffciebjpiljgaa", sum := "3ceb494ce596e3e49908cb7920ff3c45100ce312409fb782511d27775e36b05f", func := "coxswain/coxswainlaw12.CostWalks", spec := "costWalks", unfollowed := true, recurses := true, apart := false, narrowed := true }
def CostWalksUptoSaid : Prop := costWalksUptoRow.holds Try.pinned (OpenSpec.upto costWalksSpec)

/-- 'coxswainlaw11.PathsWalks', WHERE WHAT IT READS IS OF BULK AT MOST 1048576: true; the input reads as it did. -/
def pathsWalksUptoRow : OpenClaim := { program := "ytffciebjpiljgaa", sum := "3ceb494ce596e3e49908cb7920ff3c45100ce312409fb782511d27775e36b05f", func := "coxswain/coxswainlaw11.PathsWalks", spec := "pathsWalks", unfollowed := true, recurses := true, apart := false, narrowed := true }
def PathsWalksUptoSaid : Prop := pathsWalksUptoRow.holds Try.pinned (OpenSpec.upto pathsWalksSpec)

/-- 'coxswainlaw11.PathsCounts', WHERE WHAT IT READS IS OF BULK AT MOST 1048576: true; the input reads as it did. -/
def pathsCountsUptoRow : OpenClaim := { program := "ytffciebjpiljgaa", sum := "3ceb494ce596e3e49908cb7920ff3c45100ce312409fb782511d27775e36b05f", func := "coxswain/coxswainlaw11.PathsCounts", spec := "pathsCounts", unfollowed := true, recurses := true, apart := false, narrowed := true }
def PathsCountsUptoSaid : Prop := pathsCountsUptoRow.holds Try.pinned (OpenSpec.upto pathsCountsSpec)

/-- 'coxswainlaw11.PathsOften', WHERE WHAT IT READS IS OF BULK AT MOST 1048576: true; the input reads as it did. -/
def pathsOftenUptoRow : OpenClaim := { program := "ytffciebjpiljgaa", sum := "3ceb494ce596e3e49908cb7920ff3c45100ce312409fb782511d27775e36b05f", func := "coxswain/coxswainlaw11.PathsOften", spec := "pathsOften", unfollowed := true, recurses := true, apart := false, narrowed := true }
def PathsOftenUptoSaid : Prop := pathsOftenUptoRow.holds Try.pinned (OpenSpec.upto pathsOftenSpec)

/-- 'coxswainlaw13.FramePasses', WHERE WHAT IT READS IS OF BULK AT MOST 1048576: true; the input reads as it did. -/
def framePassesUptoRow : OpenClaim := { program := "ytffciebjpiljgaa", sum := "3ceb494ce596e3e49908cb7920ff3c45100ce312409fb782511d27775e36b05f", func := "coxswain/coxswainlaw13.FramePasses", spec := "framePasses", unfollowed := true, recurses := true, apart := false, narrowed := true }
def FramePassesUptoSaid : Prop := framePassesUptoRow.holds Try.pinned (OpenSpec.upto framePassesSpec)

/-- 'coxswainlaw13.FrameRuns', WHERE WHAT IT READS IS OF BULK AT MOST 1048576: true; the input reads as it did. -/
def frameRunsUptoRow : OpenClaim := { program := "ytffciebjpiljgaa", sum := "3ceb494ce596e3e49908cb7920ff3c45100ce312409fb782511d27775e36b05f", func := "coxswain/coxswainlaw13.FrameRuns", spec := "frameRuns", unfollowed := true, recurses := true, apart := false, narrowed := true }
def FrameRunsUptoSaid : Prop := frameRunsUptoRow.holds Try.pinned (OpenSpec.upto frameRunsSpec)

/-- 'coxswainlaw13.FrameSteps', WHERE WHAT IT READS IS OF BULK AT MOST 1048576: true; the input reads as it did. -/
def frameStepsUptoRow : OpenClaim := { program := "ytffciebjpiljgaa", sum := "3ceb494ce596e3e49908cb7920ff3c45100ce312409fb782511d27775e36b05f", func := "coxswain/coxswainlaw13.FrameSteps", spec := "frameSteps", unfollowed := true, recurses := true, apart := false, narrowed := true }
def FrameStepsUptoSaid : Prop := frameStepsUptoRow.holds Try.pinned (OpenSpec.upto frameStepsSpec)

/-- 'coxswainlaw13.FrameGoes', WHERE WHAT IT READS IS OF BULK AT MOST 1048576: true; the input reads as it did. -/
def frameGoesUptoRow : OpenClaim := { program := "ytffciebjpiljgaa", sum := "3ceb494ce596e3e49908cb7920ff3c45100ce312409fb782511d27775e36b05f", func := "coxswain/coxswainlaw13.FrameGoes", spec := "frameGoes", unfollowed := true, recurses := true, apart := false, narrowed := true }
def FrameGoesUptoSaid : Prop := frameGoesUptoRow.holds Try.pinned (OpenSpec.upto frameGoesSpec)

end Rows
end Go.Proofs.Ytffciebjpiljgaa
