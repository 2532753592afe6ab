/-
  DERIVED. GIVEN WITH THE SEED: THE CARDS: each row of YtfjoaeghnfkdlaaGreatDoorRows.lean that lists a variable, with what it lists TIED to the program's text (the seventh form; the later family's looks); each row that meets fmt, with fmt's text TOLD by the authors' own Lean function (tested against real Go, not proved from fmt's source: count such statements apart). THE CARD IS WHAT COUNTS. Prove the row's statement (the work); the ties are given (YtfjoaeghnfkdlaaGreatDoorTie.lean); close each card by the builder's one call (the guide's Derived/Test/ToyasCard.lean, 'card_holds'). Laid BY PROGRAM, IN A SANDBOX (cutbox-door.mjs). By AI agents, Wed Nov 11 2026. No macro, syntax, notation, axiom, sorry.
-/
import Derived.Test.YtfjoaeghnfkdlaaGreatDoorRows
import GoSem.ClaimSeven
namespace Go.Proofs.YtfjoaeghnfkdlaaGreatDoor
namespace Rows

/-- THE TIED CARD OF 'coxswainlaw29.KernelPlays'. -/
def kernelPlaysCard : Claim7 := { stood := { row := kernelPlaysRow, standIns := [], harness := (true, "cd16e29d24981de2720ddaface923a799bad5c29fed5c0496dc17efab1bcdf8c"), looks := true }, kinds := [], alts := [], laidByText := true, laidKinds := [.data], laidTests := true, laidLooks := .later }
def KernelPlaysCardSaid : Prop := Claim7.holds Tryz.pinned (.plain (OpenSpec.ofChange kernelPlaysSpec)) kernelPlaysCard

/-- THE TIED CARD OF 'coxswainlaw29.KernelClones'. -/
def kernelClonesCard : Claim7 := { stood := { row := kernelClonesRow, standIns := [], harness := (true, "cd16e29d24981de2720ddaface923a799bad5c29fed5c0496dc17efab1bcdf8c"), looks := true }, kinds := [], alts := [], laidByText := true, laidKinds := [.data], laidTests := true, laidLooks := .later }
def KernelClonesCardSaid : Prop := Claim7.holds Tryz.pinned (.plain (OpenSpec.ofChange kernelClonesSpec)) kernelClonesCard

/-- THE TIED CARD OF 'coxswainlaw30.AbstractKernel'. -/
def abstractKernelCard : Claim7 := { stood := { row := abstractKernelRow, standIns := [], harness := (true, "cd16e29d24981de2720ddaface923a799bad5c29fed5c0496dc17efab1bcdf8c"), looks := true }, kinds := [], alts := [], laidByText := true, laidKinds := [.data], laidTests := true, laidLooks := .later }
def AbstractKernelCardSaid : Prop := Claim7.holds Tryz.pinned (.plain (OpenSpec.ofChange abstractKernelSpec)) abstractKernelCard

/-- THE SECOND FORM's CARD OF 'coxswainlaw29.KernelPlays'. -/
def kernelPlaysUptoCard : Claim7 := { stood := { row := kernelPlaysUptoRow, standIns := [], harness := (true, "cd16e29d24981de2720ddaface923a799bad5c29fed5c0496dc17efab1bcdf8c"), looks := true }, kinds := [], alts := [], laidByText := true, laidKinds := [.data], laidTests := true, laidLooks := .later }
def KernelPlaysUptoCardSaid : Prop := Claim7.holds Tryz.pinned (.plain (OpenSpec.upto kernelPlaysSpec)) kernelPlaysUptoCard

/-- THE SECOND FORM's CARD OF 'coxswainlaw29.KernelClones'. -/
def kernelClonesUptoCard : Claim7 := { stood := { row := kernelClonesUptoRow, standIns := [], harness := (true, "cd16e29d24981de2720ddaface923a799bad5c29fed5c0496dc17efab1bcdf8c"), looks := true }, kinds := [], alts := [], laidByText := true, laidKinds := [.data], laidTests := true, laidLooks := .later }
def KernelClonesUptoCardSaid : Prop := Claim7.holds Tryz.pinned (.plain (OpenSpec.upto kernelClonesSpec)) kernelClonesUptoCard

/-- THE SECOND FORM's CARD OF 'coxswainlaw30.AbstractKernel'. -/
def abstractKernelUptoCard : Claim7 := { stood := { row := abstractKernelUptoRow, standIns := [], harness := (true, "cd16e29d24981de2720ddaface923a799bad5c29fed5c0496dc17efab1bcdf8c"), looks := true }, kinds := [], alts := [], laidByText := true, laidKinds := [.data], laidTests := true, laidLooks := .later }
def AbstractKernelUptoCardSaid : Prop := Claim7.holds Tryz.pinned (.plain (OpenSpec.upto abstractKernelSpec)) abstractKernelUptoCard
end Rows
end Go.Proofs.YtfjoaeghnfkdlaaGreatDoor
