/-
  DERIVED. GIVEN WITH THE SEED: THE CARDS: each row of YtnijdaidmpjccaaDoorRows.lean that lists a variable, with what it lists TIED to the program's text (the seventh form; the later family's looks); each row that meets fmt, with fmt's text TOLD by the authors' own Lean function (tested against real Go, not proved from fmt's source: count such statements apart). THE CARD IS WHAT COUNTS. Prove the row's statement (the work); the ties are given (YtnijdaidmpjccaaDoorTie.lean); close each card by the builder's one call (the guide's Derived/Test/ToyasCard.lean, 'card_holds'). Laid BY PROGRAM, IN A SANDBOX (cutbox-door.mjs). By AI agents, Wed Nov 11 2026. No macro, syntax, notation, axiom, sorry.
-/
import Derived.Test.YtnijdaidmpjccaaDoorRows
import GoSem.ClaimSeven
namespace Go.Proofs.YtnijdaidmpjccaaDoor
namespace Rows

/-- THE TIED CARD OF 'coxswainlaw03.BitmapSets'. -/
def bitmapSetsCard : Claim7 := { stood := { row := bitmapSetsRow, standIns := [], harness := (true, "86c1fe65f98f441715236051da6ce999c1083c869037c1d8a785b87a76b60675"), looks := true }, kinds := [], alts := [], laidByText := true, laidKinds := [.data], laidTests := true, laidLooks := .later }
def BitmapSetsCardSaid : Prop := Claim7.holds Tryd.pinned (.plain (OpenSpec.ofChange bitmapSetsSpec)) bitmapSetsCard

/-- THE TIED CARD OF 'coxswainlaw03.BitmapOrders'. -/
def bitmapOrdersCard : Claim7 := { stood := { row := bitmapOrdersRow, standIns := [], harness := (true, "86c1fe65f98f441715236051da6ce999c1083c869037c1d8a785b87a76b60675"), looks := true }, kinds := [], alts := [], laidByText := true, laidKinds := [.data], laidTests := true, laidLooks := .later }
def BitmapOrdersCardSaid : Prop := Claim7.holds Tryd.pinned (.plain (OpenSpec.ofChange bitmapOrdersSpec)) bitmapOrdersCard

/-- THE TIED CARD OF 'coxswainlaw03.BitmapPicks'. -/
def bitmapPicksCard : Claim7 := { stood := { row := bitmapPicksRow, standIns := [], harness := (true, "86c1fe65f98f441715236051da6ce999c1083c869037c1d8a785b87a76b60675"), looks := true }, kinds := [], alts := [], laidByText := true, laidKinds := [.data], laidTests := true, laidLooks := .later }
def BitmapPicksCardSaid : Prop := Claim7.holds Tryd.pinned (.plain (OpenSpec.ofChange bitmapPicksSpec)) bitmapPicksCard

/-- THE TIED CARD OF 'coxswainlaw28.JobOnce'. -/
def jobOnceCard : Claim7 := { stood := { row := jobOnceRow, standIns := [], harness := (true, "86c1fe65f98f441715236051da6ce999c1083c869037c1d8a785b87a76b60675"), looks := true }, kinds := [], alts := [], laidByText := true, laidKinds := [.data], laidTests := true, laidLooks := .later }
def JobOnceCardSaid : Prop := Claim7.holds Tryd.pinned (.plain (OpenSpec.ofChange jobOnceSpec)) jobOnceCard

/-- THE TIED CARD OF 'coxswainlaw28.JobClones'. -/
def jobClonesCard : Claim7 := { stood := { row := jobClonesRow, standIns := [], harness := (true, "86c1fe65f98f441715236051da6ce999c1083c869037c1d8a785b87a76b60675"), looks := true }, kinds := [], alts := [], laidByText := true, laidKinds := [.data], laidTests := true, laidLooks := .later }
def JobClonesCardSaid : Prop := Claim7.holds Tryd.pinned (.plain (OpenSpec.ofChange jobClonesSpec)) jobClonesCard

/-- THE SECOND FORM's CARD OF 'coxswainlaw03.BitmapSets'. -/
def bitmapSetsUptoCard : Claim7 := { stood := { row := bitmapSetsUptoRow, standIns := [], harness := (true, "86c1fe65f98f441715236051da6ce999c1083c869037c1d8a785b87a76b60675"), looks := true }, kinds := [], alts := [], laidByText := true, laidKinds := [.data], laidTests := true, laidLooks := .later }
def BitmapSetsUptoCardSaid : Prop := Claim7.holds Tryd.pinned (.plain (OpenSpec.upto bitmapSetsSpec)) bitmapSetsUptoCard

/-- THE SECOND FORM's CARD OF 'coxswainlaw03.BitmapOrders'. -/
def bitmapOrdersUptoCard : Claim7 := { stood := { row := bitmapOrdersUptoRow, standIns := [], harness := (true, "86c1fe65f98f441715236051da6ce999c1083c869037c1d8a785b87a76b60675"), looks := true }, kinds := [], alts := [], laidByText := true, laidKinds := [.data], laidTests := true, laidLooks := .later }
def BitmapOrdersUptoCardSaid : Prop := Claim7.holds Tryd.pinned (.plain (OpenSpec.upto bitmapOrdersSpec)) bitmapOrdersUptoCard

/-- THE SECOND FORM's CARD OF 'coxswainlaw03.BitmapPicks'. -/
def bitmapPicksUptoCard : Claim7 := { stood := { row := bitmapPicksUptoRow, standIns := [], harness := (true, "86c1fe65f98f441715236051da6ce999c1083c869037c1d8a785b87a76b60675"), looks := true }, kinds := [], alts := [], laidByText := true, laidKinds := [.data], laidTests := true, laidLooks := .later }
def BitmapPicksUptoCardSaid : Prop := Claim7.holds Tryd.pinned (.plain (OpenSpec.upto bitmapPicksSpec)) bitmapPicksUptoCard

/-- THE SECOND FORM's CARD OF 'coxswainlaw28.JobOnce'. -/
def jobOnceUptoCard : Claim7 := { stood := { row := jobOnceUptoRow, standIns := [], harness := (true, "86c1fe65f98f441715236051da6ce999c1083c869037c1d8a785b87a76b60675"), looks := true }, kinds := [], alts := [], laidByText := true, laidKinds := [.data], laidTests := true, laidLooks := .later }
def JobOnceUptoCardSaid : Prop := Claim7.holds Tryd.pinned (.plain (OpenSpec.upto jobOnceSpec)) jobOnceUptoCard

/-- THE SECOND FORM's CARD OF 'coxswainlaw28.JobClones'. -/
def jobClonesUptoCard : Claim7 := { stood := { row := jobClonesUptoRow, standIns := [], harness := (true, "86c1fe65f98f441715236051da6ce999c1083c869037c1d8a785b87a76b60675"), looks := true }, kinds := [], alts := [], laidByText := true, laidKinds := [.data], laidTests := true, laidLooks := .later }
def JobClonesUptoCardSaid : Prop := Claim7.holds Tryd.pinned (.plain (OpenSpec.upto jobClonesSpec)) jobClonesUptoCard
end Rows
end Go.Proofs.YtnijdaidmpjccaaDoor
