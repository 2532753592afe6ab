/-
  DERIVED. GIVEN WITH THE SEED: THE CARDS: each row of YtfjoaeghnfkdlaaDoorRows.lean that lists a variable, with what it lists TIED to the program's text (the seventh form; the later family's looks); each row that meets fmt, with fmt's text TOLD by the authors' own Lean function (tested against real Go, not proved from fmt's source: count such statements apart). THE CARD IS WHAT COUNTS. Prove the row's statement (the work); the ties are given (YtfjoaeghnfkdlaaDoorTie.lean); close each card by the builder's one call (the guide's Derived/Test/ToyasCard.lean, 'card_holds'). Laid BY PROGRAM, IN A SANDBOX (cutbox-door.mjs). By AI agents, Wed Nov 11 2026. No macro, syntax, notation, axiom, sorry.
-/
import Derived.Test.YtfjoaeghnfkdlaaDoorRows
import GoSem.ClaimSeven
namespace Go.Proofs.YtfjoaeghnfkdlaaDoor
namespace Rows

/-- THE TIED CARD OF 'coxswainlaw29.KernelRuns'. -/
def kernelRunsCard : Claim7 := { stood := { row := kernelRunsRow, standIns := [], harness := (true, "bd483306e7a4b945051d33e93327791a4111629470242a983e1da73f3d811292"), looks := false }, kinds := [], alts := [], laidByText := true, laidKinds := [.data], laidTests := true, laidLooks := .later }
def KernelRunsCardSaid : Prop := Claim7.holds Tryd.pinned (.plain (OpenSpec.ofChange kernelRunsSpec)) kernelRunsCard

/-- THE TIED CARD OF 'coxswainlaw29.KernelOne'. -/
def kernelOneCard : Claim7 := { stood := { row := kernelOneRow, standIns := [], harness := (true, "bd483306e7a4b945051d33e93327791a4111629470242a983e1da73f3d811292"), looks := false }, kinds := [], alts := [], laidByText := true, laidKinds := [.data], laidTests := true, laidLooks := .later }
def KernelOneCardSaid : Prop := Claim7.holds Tryd.pinned (.plain (OpenSpec.ofChange kernelOneSpec)) kernelOneCard

/-- THE SECOND FORM's CARD OF 'coxswainlaw29.KernelRuns'. -/
def kernelRunsUptoCard : Claim7 := { stood := { row := kernelRunsUptoRow, standIns := [], harness := (true, "bd483306e7a4b945051d33e93327791a4111629470242a983e1da73f3d811292"), looks := false }, kinds := [], alts := [], laidByText := true, laidKinds := [.data], laidTests := true, laidLooks := .later }
def KernelRunsUptoCardSaid : Prop := Claim7.holds Tryd.pinned (.plain (OpenSpec.upto kernelRunsSpec)) kernelRunsUptoCard

/-- THE SECOND FORM's CARD OF 'coxswainlaw29.KernelOne'. -/
def kernelOneUptoCard : Claim7 := { stood := { row := kernelOneUptoRow, standIns := [], harness := (true, "bd483306e7a4b945051d33e93327791a4111629470242a983e1da73f3d811292"), looks := false }, kinds := [], alts := [], laidByText := true, laidKinds := [.data], laidTests := true, laidLooks := .later }
def KernelOneUptoCardSaid : Prop := Claim7.holds Tryd.pinned (.plain (OpenSpec.upto kernelOneSpec)) kernelOneUptoCard
end Rows
end Go.Proofs.YtfjoaeghnfkdlaaDoor
