/-
  No cell of these rows narrows 'for every input' (looked for: loops, veiled, ifaces, maps, wideKeys, modest, calm, conditions, laid).
  DERIVED. THE GIVEN ROWS OF THIS SEAT. 10 by the template 'for every input the law returns true; each argument reads behind the call as it read before'; 0 by the template 'total and deterministic' (their statements: YtkkmageogkkchaaGreatTotals.lean).
  GIVEN WITH THE SEED: the statements are not yours to turn. If you find one false, say at which input.
  Laid BY PROGRAM, IN A SANDBOX (cutbox-rows.mjs): the forced cells as the released guide's own fill.sh prints them over the translation 611bd65b518a734a… (all of the seat's roots in one cut). By AI agents, Wed Nov 11 2026. No macro, syntax, notation, axiom, sorry.
-/
import Derived.Test.YtkkmageogkkchaaGreatChecked
import GoSem.Claim
import GoSem.ClaimJoined
import GoSem.ClaimMapViews
import Derived.JoinedTies
import Derived.KernelRfl
namespace Go.Proofs.YtkkmageogkkchaaGreat
/- THE CELL 'sum', in the pinned program and in every row, IS THE sha256 OF THE DUMP (.gsa) THAT YtkkmageogkkchaaGreatProg.lean LOADS. Nothing in Lean hashes anything: it is a label: what it is worth is what the hold of that sum in a sandbox is worth. -/
noncomputable def Tryz.pinned : Pinned := { name := "ytkkmageogkkchaagreat", sum := "611bd65b518a734ad3c00bf300214af020909926792df6adc7b6a820b67a124b", checked := Tryz.checked }
namespace Rows
def none {H : Type} : Left H := { results := [], args := [] }

/-- 'coxswainlaw39.SizeTells': WHATEVER THE INPUT: true; the input reads as it did. -/
def sizeTellsSpec : ChangeSpec := { name := "sizeTells", fn := fun _ => fun
  | [d1, d2, d3] => { results := [.lit (.bool true)], args := [d1, d2, d3] }
  | _ => none }
def sizeTellsRow : OpenClaim := { program := "ytkkmageogkkchaagreat", sum := "611bd65b518a734ad3c00bf300214af020909926792df6adc7b6a820b67a124b", func := "coxswain/coxswainlaw39.SizeTells", spec := "sizeTells", unfollowed := true, recurses := true, apart := false }
def SizeTellsSaid : Prop := sizeTellsRow.holds Tryz.pinned (OpenSpec.ofChange sizeTellsSpec)

/-- ITS FALSE NEIGHBOUR: 'it returns false'. Refute it at one input. -/
def sizeTellsWrong : ChangeSpec := { name := "sizeTells", fn := fun _ => fun
  | [d1, d2, d3] => { results := [.lit (.bool false)], args := [d1, d2, d3] }
  | _ => none }
def SizeTellsWrongFalsely : Prop := sizeTellsRow.holds Tryz.pinned (OpenSpec.ofChange sizeTellsWrong)

/-- 'coxswainlaw37.InterfereTells': WHATEVER THE INPUT: true; the input reads as it did. -/
def interfereTellsSpec : ChangeSpec := { name := "interfereTells", fn := fun _ => fun
  | [d1, d2, d3] => { results := [.lit (.bool true)], args := [d1, d2, d3] }
  | _ => none }
def interfereTellsRow : OpenClaim := { program := "ytkkmageogkkchaagreat", sum := "611bd65b518a734ad3c00bf300214af020909926792df6adc7b6a820b67a124b", func := "coxswain/coxswainlaw37.InterfereTells", spec := "interfereTells", unfollowed := true, recurses := true, apart := false }
def InterfereTellsSaid : Prop := interfereTellsRow.holds Tryz.pinned (OpenSpec.ofChange interfereTellsSpec)

/-- ITS FALSE NEIGHBOUR: 'it returns false'. Refute it at one input. -/
def interfereTellsWrong : ChangeSpec := { name := "interfereTells", fn := fun _ => fun
  | [d1, d2, d3] => { results := [.lit (.bool false)], args := [d1, d2, d3] }
  | _ => none }
def InterfereTellsWrongFalsely : Prop := interfereTellsRow.holds Tryz.pinned (OpenSpec.ofChange interfereTellsWrong)

/-- 'coxswainlaw38.RtaLoads': WHATEVER THE INPUT: true; the input reads as it did. -/
def rtaLoadsSpec : ChangeSpec := { name := "rtaLoads", fn := fun _ => fun
  | [d1, d2, d3] => { results := [.lit (.bool true)], args := [d1, d2, d3] }
  | _ => none }
def rtaLoadsRow : OpenClaim := { program := "ytkkmageogkkchaagreat", sum := "611bd65b518a734ad3c00bf300214af020909926792df6adc7b6a820b67a124b", func := "coxswain/coxswainlaw38.RtaLoads", spec := "rtaLoads", unfollowed := true, recurses := true, apart := false }
def RtaLoadsSaid : Prop := rtaLoadsRow.holds Tryz.pinned (OpenSpec.ofChange rtaLoadsSpec)

/-- ITS FALSE NEIGHBOUR: 'it returns false'. Refute it at one input. -/
def rtaLoadsWrong : ChangeSpec := { name := "rtaLoads", fn := fun _ => fun
  | [d1, d2, d3] => { results := [.lit (.bool false)], args := [d1, d2, d3] }
  | _ => none }
def RtaLoadsWrongFalsely : Prop := rtaLoadsRow.holds Tryz.pinned (OpenSpec.ofChange rtaLoadsWrong)

/-- 'coxswainlaw38.RtaResponses': WHATEVER THE INPUT: true; the input reads as it did. -/
def rtaResponsesSpec : ChangeSpec := { name := "rtaResponses", fn := fun _ => fun
  | [d1, d2, d3] => { results := [.lit (.bool true)], args := [d1, d2, d3] }
  | _ => none }
def rtaResponsesRow : OpenClaim := { program := "ytkkmageogkkchaagreat", sum := "611bd65b518a734ad3c00bf300214af020909926792df6adc7b6a820b67a124b", func := "coxswain/coxswainlaw38.RtaResponses", spec := "rtaResponses", unfollowed := true, recurses := true, apart := false }
def RtaResponsesSaid : Prop := rtaResponsesRow.holds Tryz.pinned (OpenSpec.ofChange rtaResponsesSpec)

/-- ITS FALSE NEIGHBOUR: 'it returns false'. Refute it at one input. -/
def rtaResponsesWrong : ChangeSpec := { name := "rtaResponses", fn := fun _ => fun
  | [d1, d2, d3] => { results := [.lit (.bool false)], args := [d1, d2, d3] }
  | _ => none }
def RtaResponsesWrongFalsely : Prop := rtaResponsesRow.holds Tryz.pinned (OpenSpec.ofChange rtaResponsesWrong)

/-- 'coxswainlaw38.RtaAll': WHATEVER THE INPUT: true; the input reads as it did. -/
def rtaAllSpec : ChangeSpec := { name := "rtaAll", fn := fun _ => fun
  | [d] => { results := [.lit (.bool true)], args := [d] }
  | _ => none }
def rtaAllRow : OpenClaim := { program := "ytkkmageogkkchaagreat", sum := "611bd65b518a734ad3c00bf300214af020909926792df6adc7b6a820b67a124b", func := "coxswain/coxswainlaw38.RtaAll", spec := "rtaAll", unfollowed := true, recurses := true, apart := false }
def RtaAllSaid : Prop := rtaAllRow.holds Tryz.pinned (OpenSpec.ofChange rtaAllSpec)

/-- ITS FALSE NEIGHBOUR: 'it returns false'. Refute it at one input. -/
def rtaAllWrong : ChangeSpec := { name := "rtaAll", fn := fun _ => fun
  | [d] => { results := [.lit (.bool false)], args := [d] }
  | _ => none }
def RtaAllWrongFalsely : Prop := rtaAllRow.holds Tryz.pinned (OpenSpec.ofChange rtaAllWrong)

/-- 'coxswainlaw38.RtaLeast': WHATEVER THE INPUT: true; the input reads as it did. -/
def rtaLeastSpec : ChangeSpec := { name := "rtaLeast", fn := fun _ => fun
  | [d1, d2, d3] => { results := [.lit (.bool true)], args := [d1, d2, d3] }
  | _ => none }
def rtaLeastRow : OpenClaim := { program := "ytkkmageogkkchaagreat", sum := "611bd65b518a734ad3c00bf300214af020909926792df6adc7b6a820b67a124b", func := "coxswain/coxswainlaw38.RtaLeast", spec := "rtaLeast", unfollowed := true, recurses := true, apart := false }
def RtaLeastSaid : Prop := rtaLeastRow.holds Tryz.pinned (OpenSpec.ofChange rtaLeastSpec)

/-- ITS FALSE NEIGHBOUR: 'it returns false'. Refute it at one input. -/
def rtaLeastWrong : ChangeSpec := { name := "rtaLeast", fn := fun _ => fun
  | [d1, d2, d3] => { results := [.lit (.bool false)], args := [d1, d2, d3] }
  | _ => none }
def RtaLeastWrongFalsely : Prop := rtaLeastRow.holds Tryz.pinned (OpenSpec.ofChange rtaLeastWrong)

/-- 'coxswainlaw39.SizeFits': WHATEVER THE INPUT: true; the input reads as it did. -/
def sizeFitsSpec : ChangeSpec := { name := "sizeFits", fn := fun _ => fun
  | [d] => { results := [.lit (.bool true)], args := [d] }
  | _ => none }
def sizeFitsRow : OpenClaim := { program := "ytkkmageogkkchaagreat", sum := "611bd65b518a734ad3c00bf300214af020909926792df6adc7b6a820b67a124b", func := "coxswain/coxswainlaw39.SizeFits", spec := "sizeFits", unfollowed := true, recurses := true, apart := false }
def SizeFitsSaid : Prop := sizeFitsRow.holds Tryz.pinned (OpenSpec.ofChange sizeFitsSpec)

/-- ITS FALSE NEIGHBOUR: 'it returns false'. Refute it at one input. -/
def sizeFitsWrong : ChangeSpec := { name := "sizeFits", fn := fun _ => fun
  | [d] => { results := [.lit (.bool false)], args := [d] }
  | _ => none }
def SizeFitsWrongFalsely : Prop := sizeFitsRow.holds Tryz.pinned (OpenSpec.ofChange sizeFitsWrong)

/-- 'coxswainlaw40.AdmitChecks': WHATEVER THE INPUT: true; the input reads as it did. -/
def admitChecksSpec : ChangeSpec := { name := "admitChecks", fn := fun _ => fun
  | [d] => { results := [.lit (.bool true)], args := [d] }
  | _ => none }
def admitChecksRow : OpenClaim := { program := "ytkkmageogkkchaagreat", sum := "611bd65b518a734ad3c00bf300214af020909926792df6adc7b6a820b67a124b", func := "coxswain/coxswainlaw40.AdmitChecks", spec := "admitChecks", unfollowed := true, recurses := true, apart := false }
def AdmitChecksSaid : Prop := admitChecksRow.holds Tryz.pinned (OpenSpec.ofChange admitChecksSpec)

/-- ITS FALSE NEIGHBOUR: 'it returns false'. Refute it at one input. -/
def admitChecksWrong : ChangeSpec := { name := "admitChecks", fn := fun _ => fun
  | [d] => { results := [.lit (.bool false)], args := [d] }
  | _ => none }
def AdmitChecksWrongFalsely : Prop := admitChecksRow.holds Tryz.pinned (OpenSpec.ofChange admitChecksWrong)

/-- 'coxswainlaw40.AdmitSlower': WHATEVER THE INPUT: true; the input reads as it did. -/
def admitSlowerSpec : ChangeSpec := { name := "admitSlower", fn := fun _ => fun
  | [d1, d2] => { results := [.lit (.bool true)], args := [d1, d2] }
  | _ => none }
def admitSlowerRow : OpenClaim := { program := "ytkkmageogkkchaagreat", sum := "611bd65b518a734ad3c00bf300214af020909926792df6adc7b6a820b67a124b", func := "coxswain/coxswainlaw40.AdmitSlower", spec := "admitSlower", unfollowed := true, recurses := true, apart := false }
def AdmitSlowerSaid : Prop := admitSlowerRow.holds Tryz.pinned (OpenSpec.ofChange admitSlowerSpec)

/-- ITS FALSE NEIGHBOUR: 'it returns false'. Refute it at one input. -/
def admitSlowerWrong : ChangeSpec := { name := "admitSlower", fn := fun _ => fun
  | [d1, d2] => { results := [.lit (.bool false)], args := [d1, d2] }
  | _ => none }
def AdmitSlowerWrongFalsely : Prop := admitSlowerRow.holds Tryz.pinned (OpenSpec.ofChange admitSlowerWrong)

/-- 'coxswainlaw40.AdmitSound': WHATEVER THE INPUT: true; the input reads as it did. -/
def admitSoundSpec : ChangeSpec := { name := "admitSound", fn := fun _ => fun
  | [d] => { results := [.lit (.bool true)], args := [d] }
  | _ => none }
def admitSoundRow : OpenClaim := { program := "ytkkmageogkkchaagreat", sum := "611bd65b518a734ad3c00bf300214af020909926792df6adc7b6a820b67a124b", func := "coxswain/coxswainlaw40.AdmitSound", spec := "admitSound", unfollowed := true, recurses := true, apart := false }
def AdmitSoundSaid : Prop := admitSoundRow.holds Tryz.pinned (OpenSpec.ofChange admitSoundSpec)

/-- ITS FALSE NEIGHBOUR: 'it returns false'. Refute it at one input. -/
def admitSoundWrong : ChangeSpec := { name := "admitSound", fn := fun _ => fun
  | [d] => { results := [.lit (.bool false)], args := [d] }
  | _ => none }
def AdmitSoundWrongFalsely : Prop := admitSoundRow.holds Tryz.pinned (OpenSpec.ofChange admitSoundWrong)

/- THE SECOND FORM. 'bulk': how many values and letters a reading holds, each counted each time it is reached (what is shared counts as often as it is met; a slice's spare places count too). A statement '..UptoSaid' is the law's where the arguments, and the package variables that the reading takes, are together of bulk at most 1048576: NARROWER than '..Said'. Prove '..Said' where nothing that the law and all that it calls make is longer than what came in: it says more and counts as full. Else prove '..UptoSaid'. A law counts once. -/
mutual
def uptoBulk {H : Type} : DataW H → Nat
  | .lit (.string bytes) => bytes.length + 1
  | .lit _ => 1
  | .nil => 1
  | .ptr d => uptoBulk d + 1
  | .slice elems spare => uptoBulkAll elems + uptoBulkAll spare + 1
  | .agg parts => uptoBulkAll parts + 1
  | .iface _ d => uptoBulk d + 1
  | .map entries => uptoBulkEntries entries + 1
  | .held _ => 1
def uptoBulkAll {H : Type} : List (DataW H) → Nat
  | [] => 0
  | d :: r => uptoBulk d + uptoBulkAll r
def uptoBulkEntries {H : Type} : List (Lit × DataW H) → Nat
  | [] => 0
  | x :: r => uptoBulkEntry x + uptoBulkEntries r
def uptoBulkEntry {H : Type} : Lit × DataW H → Nat
  | (.string bytes, d) => bytes.length + uptoBulk d + 1
  | (_, d) => uptoBulk d + 1
 end
def uptoSmall : (H : Type) → List (DataW H) → Bool := fun _ ds => decide (uptoBulkAll ds ≤ 1048576)
def OpenSpec.upto (s : _root_.Go.ChangeSpec) : _root_.Go.OpenSpec := { _root_.Go.OpenSpec.ofChange s with cond := some uptoSmall }

/-- 'coxswainlaw39.SizeTells', WHERE WHAT IT READS IS OF BULK AT MOST 1048576: true; the input reads as it did. -/
def sizeTellsUptoRow : OpenClaim := { program := "ytkkmageogkkchaagreat", sum := "611bd65b518a734ad3c00bf300214af020909926792df6adc7b6a820b67a124b", func := "coxswain/coxswainlaw39.SizeTells", spec := "sizeTells", unfollowed := true, recurses := true, apart := false, narrowed := true }
def SizeTellsUptoSaid : Prop := sizeTellsUptoRow.holds Tryz.pinned (OpenSpec.upto sizeTellsSpec)

/-- 'coxswainlaw37.InterfereTells', WHERE WHAT IT READS IS OF BULK AT MOST 1048576: true; the input reads as it did. -/
def interfereTellsUptoRow : OpenClaim := { program := "ytkkmageogkkchaagreat", sum := "611bd65b518a734ad3c00bf300214af020909926792df6adc7b6a820b67a124b", func := "coxswain/coxswainlaw37.InterfereTells", spec := "interfereTells", unfollowed := true, recurses := true, apart := false, narrowed := true }
def InterfereTellsUptoSaid : Prop := interfereTellsUptoRow.holds Tryz.pinned (OpenSpec.upto interfereTellsSpec)

/-- 'coxswainlaw38.RtaLoads', WHERE WHAT IT READS IS OF BULK AT MOST 1048576: true; the input reads as it did. -/
def rtaLoadsUptoRow : OpenClaim := { program := "ytkkmageogkkchaagreat", sum := "611bd65b518a734ad3c00bf300214af020909926792df6adc7b6a820b67a124b", func := "coxswain/coxswainlaw38.RtaLoads", spec := "rtaLoads", unfollowed := true, recurses := true, apart := false, narrowed := true }
def RtaLoadsUptoSaid : Prop := rtaLoadsUptoRow.holds Tryz.pinned (OpenSpec.upto rtaLoadsSpec)

/-- 'coxswainlaw38.RtaResponses', WHERE WHAT IT READS IS OF BULK AT MOST 1048576: true; the input reads as it did. -/
def rtaResponsesUptoRow : OpenClaim := { program := "ytkkmageogkkchaagreat", sum := "611bd65b518a734ad3c00bf300214af020909926792df6adc7b6a820b67a124b", func := "coxswain/coxswainlaw38.RtaResponses", spec := "rtaResponses", unfollowed := true, recurses := true, apart := false, narrowed := true }
def RtaResponsesUptoSaid : Prop := rtaResponsesUptoRow.holds Tryz.pinned (OpenSpec.upto rtaResponsesSpec)

/-- 'coxswainlaw38.RtaAll', WHERE WHAT IT READS IS OF BULK AT MOST 1048576: true; the input reads as it did. -/
def rtaAllUptoRow : OpenClaim := { program := "ytkkmageogkkchaagreat", sum := "611bd65b518a734ad3c00bf300214af020909926792df6adc7b6a820b67a124b", func := "coxswain/coxswainlaw38.RtaAll", spec := "rtaAll", unfollowed := true, recurses := true, apart := false, narrowed := true }
def RtaAllUptoSaid : Prop := rtaAllUptoRow.holds Tryz.pinned (OpenSpec.upto rtaAllSpec)

/-- 'coxswainlaw38.RtaLeast', WHERE WHAT IT READS IS OF BULK AT MOST 1048576: true; the input reads as it did. -/
def rtaLeastUptoRow : OpenClaim := { program := "ytkkmageogkkchaagreat", sum := "611bd65b518a734ad3c00bf300214af020909926792df6adc7b6a820b67a124b", func := "coxswain/coxswainlaw38.RtaLeast", spec := "rtaLeast", unfollowed := true, recurses := true, apart := false, narrowed := true }
def RtaLeastUptoSaid : Prop := rtaLeastUptoRow.holds Tryz.pinned (OpenSpec.upto rtaLeastSpec)

/-- 'coxswainlaw39.SizeFits', WHERE WHAT IT READS IS OF BULK AT MOST 1048576: true; the input reads as it did. -/
def sizeFitsUptoRow : OpenClaim := { program := "ytkkmageogkkchaagreat", sum := "611bd65b518a734ad3c00bf300214af020909926792df6adc7b6a820b67a124b", func := "coxswain/coxswainlaw39.SizeFits", spec := "sizeFits", unfollowed := true, recurses := true, apart := false, narrowed := true }
def SizeFitsUptoSaid : Prop := sizeFitsUptoRow.holds Tryz.pinned (OpenSpec.upto sizeFitsSpec)

/-- 'coxswainlaw40.AdmitChecks', WHERE WHAT IT READS IS OF BULK AT MOST 1048576: true; the input reads as it did. -/
def admitChecksUptoRow : OpenClaim := { program := "ytkkmageogkkchaagreat", sum := "611bd65b518a734ad3c00bf300214af020909926792df6adc7b6a820b67a124b", func := "coxswain/coxswainlaw40.AdmitChecks", spec := "admitChecks", unfollowed := true, recurses := true, apart := false, narrowed := true }
def AdmitChecksUptoSaid : Prop := admitChecksUptoRow.holds Tryz.pinned (OpenSpec.upto admitChecksSpec)

/-- 'coxswainlaw40.AdmitSlower', WHERE WHAT IT READS IS OF BULK AT MOST 1048576: true; the input reads as it did. -/
def admitSlowerUptoRow : OpenClaim := { program := "ytkkmageogkkchaagreat", sum := "611bd65b518a734ad3c00bf300214af020909926792df6adc7b6a820b67a124b", func := "coxswain/coxswainlaw40.AdmitSlower", spec := "admitSlower", unfollowed := true, recurses := true, apart := false, narrowed := true }
def AdmitSlowerUptoSaid : Prop := admitSlowerUptoRow.holds Tryz.pinned (OpenSpec.upto admitSlowerSpec)

/-- 'coxswainlaw40.AdmitSound', WHERE WHAT IT READS IS OF BULK AT MOST 1048576: true; the input reads as it did. -/
def admitSoundUptoRow : OpenClaim := { program := "ytkkmageogkkchaagreat", sum := "611bd65b518a734ad3c00bf300214af020909926792df6adc7b6a820b67a124b", func := "coxswain/coxswainlaw40.AdmitSound", spec := "admitSound", unfollowed := true, recurses := true, apart := false, narrowed := true }
def AdmitSoundUptoSaid : Prop := admitSoundUptoRow.holds Tryz.pinned (OpenSpec.upto admitSoundSpec)

end Rows
end Go.Proofs.YtkkmageogkkchaaGreat
