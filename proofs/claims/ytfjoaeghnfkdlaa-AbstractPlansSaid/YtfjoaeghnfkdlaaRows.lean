/-
  No cell of these rows narrows 'for every input' (looked for: loops, veiled, ifaces, maps, wideKeys, modest, calm, conditions, laid).
  DERIVED. THE GIVEN ROWS OF THIS SEAT. 9 by the template 'for every input the law returns true; each argument reads behind the call as it read before'; 0 by the template 'total and deterministic' (their statements: YtfjoaeghnfkdlaaTotals.lean).
  GIVEN WITH THE SEED: the statements are not yours to turn. If you find one false, say at which input.
  Laid BY PROGRAM, IN A SANDBOX (cutbox-rows.mjs): the forced cells as the released guide's own fill.sh prints them over the translation 01f8a032f83122c6… (all of the seat's roots in one cut). By AI agents, Wed Nov 11 2026. No macro, syntax, notation, axiom, sorry.
-/
import Derived.Test.YtfjoaeghnfkdlaaChecked
import GoSem.Claim
import GoSem.ClaimJoined
import GoSem.ClaimMapViews
import Derived.JoinedTies
import Derived.KernelRfl
namespace Go.Proofs.Ytfjoaeghnfkdlaa
/- THE CELL 'sum', in the pinned program and in every row, IS THE sha256 OF THE DUMP (.gsa) THAT YtfjoaeghnfkdlaaProg.lean LOADS. Nothing in Lean hashes anything: it is a label: what it is worth is what the hold of that sum in a sandbox is worth. -/
noncomputable def Try.pinned : Pinned := { name := "ytfjoaeghnfkdlaa", sum := "01f8a032f83122c662bc5050b27b1e02d069639d6b2ac86f5940fc630b78e0ac", checked := Try.checked }
namespace Rows
def none {H : Type} : Left H := { results := [], args := [] }

/-- 'coxswainlaw27.ReleaseFilters': WHATEVER THE INPUT: true; the input reads as it did. -/
def releaseFiltersSpec : ChangeSpec := { name := "releaseFilters", fn := fun _ => fun
  | [d1, d2] => { results := [.lit (.bool true)], args := [d1, d2] }
  | _ => none }
def releaseFiltersRow : OpenClaim := { program := "ytfjoaeghnfkdlaa", sum := "01f8a032f83122c662bc5050b27b1e02d069639d6b2ac86f5940fc630b78e0ac", func := "coxswain/coxswainlaw27.ReleaseFilters", spec := "releaseFilters", unfollowed := true, recurses := true, apart := false }
def ReleaseFiltersSaid : Prop := releaseFiltersRow.holds Try.pinned (OpenSpec.ofChange releaseFiltersSpec)

/-- ITS FALSE NEIGHBOUR: 'it returns false'. Refute it at one input. -/
def releaseFiltersWrong : ChangeSpec := { name := "releaseFilters", fn := fun _ => fun
  | [d1, d2] => { results := [.lit (.bool false)], args := [d1, d2] }
  | _ => none }
def ReleaseFiltersWrongFalsely : Prop := releaseFiltersRow.holds Try.pinned (OpenSpec.ofChange releaseFiltersWrong)

/-- 'coxswainlaw27.ReleaseAll': WHATEVER THE INPUT: true; the input reads as it did. -/
def releaseAllSpec : ChangeSpec := { name := "releaseAll", fn := fun _ => fun
  | [d1, d2, d3] => { results := [.lit (.bool true)], args := [d1, d2, d3] }
  | _ => none }
def releaseAllRow : OpenClaim := { program := "ytfjoaeghnfkdlaa", sum := "01f8a032f83122c662bc5050b27b1e02d069639d6b2ac86f5940fc630b78e0ac", func := "coxswain/coxswainlaw27.ReleaseAll", spec := "releaseAll", unfollowed := true, recurses := true, apart := false }
def ReleaseAllSaid : Prop := releaseAllRow.holds Try.pinned (OpenSpec.ofChange releaseAllSpec)

/-- ITS FALSE NEIGHBOUR: 'it returns false'. Refute it at one input. -/
def releaseAllWrong : ChangeSpec := { name := "releaseAll", fn := fun _ => fun
  | [d1, d2, d3] => { results := [.lit (.bool false)], args := [d1, d2, d3] }
  | _ => none }
def ReleaseAllWrongFalsely : Prop := releaseAllRow.holds Try.pinned (OpenSpec.ofChange releaseAllWrong)

/-- 'coxswainlaw27.ReleaseApart': WHATEVER THE INPUT: true; the input reads as it did. -/
def releaseApartSpec : ChangeSpec := { name := "releaseApart", fn := fun _ => fun
  | [d1, d2, d3] => { results := [.lit (.bool true)], args := [d1, d2, d3] }
  | _ => none }
def releaseApartRow : OpenClaim := { program := "ytfjoaeghnfkdlaa", sum := "01f8a032f83122c662bc5050b27b1e02d069639d6b2ac86f5940fc630b78e0ac", func := "coxswain/coxswainlaw27.ReleaseApart", spec := "releaseApart", unfollowed := true, recurses := true, apart := false }
def ReleaseApartSaid : Prop := releaseApartRow.holds Try.pinned (OpenSpec.ofChange releaseApartSpec)

/-- ITS FALSE NEIGHBOUR: 'it returns false'. Refute it at one input. -/
def releaseApartWrong : ChangeSpec := { name := "releaseApart", fn := fun _ => fun
  | [d1, d2, d3] => { results := [.lit (.bool false)], args := [d1, d2, d3] }
  | _ => none }
def ReleaseApartWrongFalsely : Prop := releaseApartRow.holds Try.pinned (OpenSpec.ofChange releaseApartWrong)

/-- 'coxswainlaw05.AgendaSorts': WHATEVER THE INPUT: true; the input reads as it did. -/
def agendaSortsSpec : ChangeSpec := { name := "agendaSorts", fn := fun _ => fun
  | [d] => { results := [.lit (.bool true)], args := [d] }
  | _ => none }
def agendaSortsRow : OpenClaim := { program := "ytfjoaeghnfkdlaa", sum := "01f8a032f83122c662bc5050b27b1e02d069639d6b2ac86f5940fc630b78e0ac", func := "coxswain/coxswainlaw05.AgendaSorts", spec := "agendaSorts", unfollowed := true, recurses := true, apart := false }
def AgendaSortsSaid : Prop := agendaSortsRow.holds Try.pinned (OpenSpec.ofChange agendaSortsSpec)

/-- ITS FALSE NEIGHBOUR: 'it returns false'. Refute it at one input. -/
def agendaSortsWrong : ChangeSpec := { name := "agendaSorts", fn := fun _ => fun
  | [d] => { results := [.lit (.bool false)], args := [d] }
  | _ => none }
def AgendaSortsWrongFalsely : Prop := agendaSortsRow.holds Try.pinned (OpenSpec.ofChange agendaSortsWrong)

/-- 'coxswainlaw05.AgendaPlays': WHATEVER THE INPUT: true; the input reads as it did. -/
def agendaPlaysSpec : ChangeSpec := { name := "agendaPlays", fn := fun _ => fun
  | [d1, d2] => { results := [.lit (.bool true)], args := [d1, d2] }
  | _ => none }
def agendaPlaysRow : OpenClaim := { program := "ytfjoaeghnfkdlaa", sum := "01f8a032f83122c662bc5050b27b1e02d069639d6b2ac86f5940fc630b78e0ac", func := "coxswain/coxswainlaw05.AgendaPlays", spec := "agendaPlays", unfollowed := true, recurses := true, apart := false }
def AgendaPlaysSaid : Prop := agendaPlaysRow.holds Try.pinned (OpenSpec.ofChange agendaPlaysSpec)

/-- ITS FALSE NEIGHBOUR: 'it returns false'. Refute it at one input. -/
def agendaPlaysWrong : ChangeSpec := { name := "agendaPlays", fn := fun _ => fun
  | [d1, d2] => { results := [.lit (.bool false)], args := [d1, d2] }
  | _ => none }
def AgendaPlaysWrongFalsely : Prop := agendaPlaysRow.holds Try.pinned (OpenSpec.ofChange agendaPlaysWrong)

/-- 'coxswainlaw05.AgendaNone': WHATEVER THE INPUT: true; the input reads as it did. -/
def agendaNoneSpec : ChangeSpec := { name := "agendaNone", fn := fun _ => fun
  | [d1, d2] => { results := [.lit (.bool true)], args := [d1, d2] }
  | _ => none }
def agendaNoneRow : OpenClaim := { program := "ytfjoaeghnfkdlaa", sum := "01f8a032f83122c662bc5050b27b1e02d069639d6b2ac86f5940fc630b78e0ac", func := "coxswain/coxswainlaw05.AgendaNone", spec := "agendaNone", unfollowed := true, recurses := true, apart := false }
def AgendaNoneSaid : Prop := agendaNoneRow.holds Try.pinned (OpenSpec.ofChange agendaNoneSpec)

/-- ITS FALSE NEIGHBOUR: 'it returns false'. Refute it at one input. -/
def agendaNoneWrong : ChangeSpec := { name := "agendaNone", fn := fun _ => fun
  | [d1, d2] => { results := [.lit (.bool false)], args := [d1, d2] }
  | _ => none }
def AgendaNoneWrongFalsely : Prop := agendaNoneRow.holds Try.pinned (OpenSpec.ofChange agendaNoneWrong)

/-- 'coxswainlaw30.AbstractAhead': WHATEVER THE INPUT: true; the input reads as it did. -/
def abstractAheadSpec : ChangeSpec := { name := "abstractAhead", fn := fun _ => fun
  | [d1, d2, d3] => { results := [.lit (.bool true)], args := [d1, d2, d3] }
  | _ => none }
def abstractAheadRow : OpenClaim := { program := "ytfjoaeghnfkdlaa", sum := "01f8a032f83122c662bc5050b27b1e02d069639d6b2ac86f5940fc630b78e0ac", func := "coxswain/coxswainlaw30.AbstractAhead", spec := "abstractAhead", unfollowed := true, recurses := true, apart := false }
def AbstractAheadSaid : Prop := abstractAheadRow.holds Try.pinned (OpenSpec.ofChange abstractAheadSpec)

/-- ITS FALSE NEIGHBOUR: 'it returns false'. Refute it at one input. -/
def abstractAheadWrong : ChangeSpec := { name := "abstractAhead", fn := fun _ => fun
  | [d1, d2, d3] => { results := [.lit (.bool false)], args := [d1, d2, d3] }
  | _ => none }
def AbstractAheadWrongFalsely : Prop := abstractAheadRow.holds Try.pinned (OpenSpec.ofChange abstractAheadWrong)

/-- 'coxswainlaw30.AbstractTells': WHATEVER THE INPUT: true; the input reads as it did. -/
def abstractTellsSpec : ChangeSpec := { name := "abstractTells", fn := fun _ => fun
  | [d1, d2, d3] => { results := [.lit (.bool true)], args := [d1, d2, d3] }
  | _ => none }
def abstractTellsRow : OpenClaim := { program := "ytfjoaeghnfkdlaa", sum := "01f8a032f83122c662bc5050b27b1e02d069639d6b2ac86f5940fc630b78e0ac", func := "coxswain/coxswainlaw30.AbstractTells", spec := "abstractTells", unfollowed := true, recurses := true, apart := false }
def AbstractTellsSaid : Prop := abstractTellsRow.holds Try.pinned (OpenSpec.ofChange abstractTellsSpec)

/-- ITS FALSE NEIGHBOUR: 'it returns false'. Refute it at one input. -/
def abstractTellsWrong : ChangeSpec := { name := "abstractTells", fn := fun _ => fun
  | [d1, d2, d3] => { results := [.lit (.bool false)], args := [d1, d2, d3] }
  | _ => none }
def AbstractTellsWrongFalsely : Prop := abstractTellsRow.holds Try.pinned (OpenSpec.ofChange abstractTellsWrong)

/-- 'coxswainlaw30.AbstractPlans': WHATEVER THE INPUT: true; the input reads as it did. -/
def abstractPlansSpec : ChangeSpec := { name := "abstractPlans", fn := fun _ => fun
  | [d] => { results := [.lit (.bool true)], args := [d] }
  | _ => none }
def abstractPlansRow : OpenClaim := { program := "ytfjoaeghnfkdlaa", sum := "01f8a032f83122c662bc5050b27b1e02d069639d6b2ac86f5940fc630b78e0ac", func := "coxswain/coxswainlaw30.AbstractPlans", spec := "abstractPlans", unfollowed := true, recurses := true, apart := false }
def AbstractPlansSaid : Prop := abstractPlansRow.holds Try.pinned (OpenSpec.ofChange abstractPlansSpec)

/-- ITS FALSE NEIGHBOUR: 'it returns false'. Refute it at one input. -/
def abstractPlansWrong : ChangeSpec := { name := "abstractPlans", fn := fun _ => fun
  | [d] => { results := [.lit (.bool false)], args := [d] }
  | _ => none }
def AbstractPlansWrongFalsely : Prop := abstractPlansRow.holds Try.pinned (OpenSpec.ofChange abstractPlansWrong)

/- THE SECOND FORM. 'bulk': how many values and letters a reading holds, each counted each time it is reached (what is shared counts as often as it is met; a slice's spare places count too). A statement '..UptoSaid' is the law's where the arguments, and the package variables that the reading takes, are together of bulk at most 1048576: NARROWER than '..Said'. Prove '..Said' where nothing that the law and all that it calls make is longer than what came in: it says more and counts as full. Else prove '..UptoSaid'. A law counts once. -/
mutual
def uptoBulk {H : Type} : DataW H → Nat
  | .lit (.string bytes) => bytes.length + 1
  | .lit _ => 1
  | .nil => 1
  | .ptr d => uptoBulk d + 1
  | .slice elems spare => uptoBulkAll elems + uptoBulkAll spare + 1
  | .agg parts => uptoBulkAll parts + 1
  | .iface _ d => uptoBulk d + 1
  | .map entries => uptoBulkEntries entries + 1
  | .held _ => 1
def uptoBulkAll {H : Type} : List (DataW H) → Nat
  | [] => 0
  | d :: r => uptoBulk d + uptoBulkAll r
def uptoBulkEntries {H : Type} : List (Lit × DataW H) → Nat
  | [] => 0
  | x :: r => uptoBulkEntry x + uptoBulkEntries r
def uptoBulkEntry {H : Type} : Lit × DataW H → Nat
  | (.string bytes, d) => bytes.length + uptoBulk d + 1
  | (_, d) => uptoBulk d + 1
 end
def uptoSmall : (H : Type) → List (DataW H) → Bool := fun _ ds => decide (uptoBulkAll ds ≤ 1048576)
def OpenSpec.upto (s : _root_.Go.ChangeSpec) : _root_.Go.OpenSpec := { _root_.Go.OpenSpec.ofChange s with cond := some uptoSmall }

/-- 'coxswainlaw27.ReleaseFilters', WHERE WHAT IT READS IS OF BULK AT MOST 1048576: true; the input reads as it did. -/
def releaseFiltersUptoRow : OpenClaim := { program := "ytfjoaeghnfkdlaa", sum := "01f8a032f83122c662bc5050b27b1e02d069639d6b2ac86f5940fc630b78e0ac", func := "coxswain/coxswainlaw27.ReleaseFilters", spec := "releaseFilters", unfollowed := true, recurses := true, apart := false, narrowed := true }
def ReleaseFiltersUptoSaid : Prop := releaseFiltersUptoRow.holds Try.pinned (OpenSpec.upto releaseFiltersSpec)

/-- 'coxswainlaw27.ReleaseAll', WHERE WHAT IT READS IS OF BULK AT MOST 1048576: true; the input reads as it did. -/
def releaseAllUptoRow : OpenClaim := { program := "ytfjoaeghnfkdlaa", sum := "01f8a032f83122c662bc5050b27b1e02d069639d6b2ac86f5940fc630b78e0ac", func := "coxswain/coxswainlaw27.ReleaseAll", spec := "releaseAll", unfollowed := true, recurses := true, apart := false, narrowed := true }
def ReleaseAllUptoSaid : Prop := releaseAllUptoRow.holds Try.pinned (OpenSpec.upto releaseAllSpec)

/-- 'coxswainlaw27.ReleaseApart', WHERE WHAT IT READS IS OF BULK AT MOST 1048576: true; the input reads as it did. -/
def releaseApartUptoRow : OpenClaim := { program := "ytfjoaeghnfkdlaa", sum := "01f8a032f83122c662bc5050b27b1e02d069639d6b2ac86f5940fc630b78e0ac", func := "coxswain/coxswainlaw27.ReleaseApart", spec := "releaseApart", unfollowed := true, recurses := true, apart := false, narrowed := true }
def ReleaseApartUptoSaid : Prop := releaseApartUptoRow.holds Try.pinned (OpenSpec.upto releaseApartSpec)

/-- 'coxswainlaw05.AgendaSorts', WHERE WHAT IT READS IS OF BULK AT MOST 1048576: true; the input reads as it did. -/
def agendaSortsUptoRow : OpenClaim := { program := "ytfjoaeghnfkdlaa", sum := "01f8a032f83122c662bc5050b27b1e02d069639d6b2ac86f5940fc630b78e0ac", func := "coxswain/coxswainlaw05.AgendaSorts", spec := "agendaSorts", unfollowed := true, recurses := true, apart := false, narrowed := true }
def AgendaSortsUptoSaid : Prop := agendaSortsUptoRow.holds Try.pinned (OpenSpec.upto agendaSortsSpec)

/-- 'coxswainlaw05.AgendaPlays', WHERE WHAT IT READS IS OF BULK AT MOST 1048576: true; the input reads as it did. -/
def agendaPlaysUptoRow : OpenClaim := { program := "ytfjoaeghnfkdlaa", sum := "01f8a032f83122c662bc5050b27b1e02d069639d6b2ac86f5940fc630b78e0ac", func := "coxswain/coxswainlaw05.AgendaPlays", spec := "agendaPlays", unfollowed := true, recurses := true, apart := false, narrowed := true }
def AgendaPlaysUptoSaid : Prop := agendaPlaysUptoRow.holds Try.pinned (OpenSpec.upto agendaPlaysSpec)

/-- 'coxswainlaw05.AgendaNone', WHERE WHAT IT READS IS OF BULK AT MOST 1048576: true; the input reads as it did. -/
def agendaNoneUptoRow : OpenClaim := { program := "ytfjoaeghnfkdlaa", sum := "01f8a032f83122c662bc5050b27b1e02d069639d6b2ac86f5940fc630b78e0ac", func := "coxswain/coxswainlaw05.AgendaNone", spec := "agendaNone", unfollowed := true, recurses := true, apart := false, narrowed := true }
def AgendaNoneUptoSaid : Prop := agendaNoneUptoRow.holds Try.pinned (OpenSpec.upto agendaNoneSpec)

/-- 'coxswainlaw30.AbstractAhead', WHERE WHAT IT READS IS OF BULK AT MOST 1048576: true; the input reads as it did. -/
def abstractAheadUptoRow : OpenClaim := { program := "ytfjoaeghnfkdlaa", sum := "01f8a032f83122c662bc5050b27b1e02d069639d6b2ac86f5940fc630b78e0ac", func := "coxswain/coxswainlaw30.AbstractAhead", spec := "abstractAhead", unfollowed := true, recurses := true, apart := false, narrowed := true }
def AbstractAheadUptoSaid : Prop := abstractAheadUptoRow.holds Try.pinned (OpenSpec.upto abstractAheadSpec)

/-- 'coxswainlaw30.AbstractTells', WHERE WHAT IT READS IS OF BULK AT MOST 1048576: true; the input reads as it did. -/
def abstractTellsUptoRow : OpenClaim := { program := "ytfjoaeghnfkdlaa", sum := "01f8a032f83122c662bc5050b27b1e02d069639d6b2ac86f5940fc630b78e0ac", func := "coxswain/coxswainlaw30.AbstractTells", spec := "abstractTells", unfollowed := true, recurses := true, apart := false, narrowed := true }
def AbstractTellsUptoSaid : Prop := abstractTellsUptoRow.holds Try.pinned (OpenSpec.upto abstractTellsSpec)

/-- 'coxswainlaw30.AbstractPlans', WHERE WHAT IT READS IS OF BULK AT MOST 1048576: true; the input reads as it did. -/
def abstractPlansUptoRow : OpenClaim := { program := "ytfjoaeghnfkdlaa", sum := "01f8a032f83122c662bc5050b27b1e02d069639d6b2ac86f5940fc630b78e0ac", func := "coxswain/coxswainlaw30.AbstractPlans", spec := "abstractPlans", unfollowed := true, recurses := true, apart := false, narrowed := true }
def AbstractPlansUptoSaid : Prop := abstractPlansUptoRow.holds Try.pinned (OpenSpec.upto abstractPlansSpec)

end Rows
end Go.Proofs.Ytfjoaeghnfkdlaa
