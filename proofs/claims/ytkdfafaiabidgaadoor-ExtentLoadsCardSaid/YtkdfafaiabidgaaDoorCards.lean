/-
  DERIVED. GIVEN WITH THE SEED: THE CARDS: each row of YtkdfafaiabidgaaDoorRows.lean that lists a variable, with what it lists TIED to the program's text (the seventh form; the later family's looks); each row that meets fmt, with fmt's text TOLD by the authors' own Lean function (tested against real Go, not proved from fmt's source: count such statements apart). THE CARD IS WHAT COUNTS. Prove the row's statement (the work); the ties are given (YtkdfafaiabidgaaDoorTie.lean); close each card by the builder's one call (the guide's Derived/Test/ToyasCard.lean, 'card_holds'). Laid BY PROGRAM, IN A SANDBOX (cutbox-door.mjs). By AI agents, Wed Nov 11 2026. No macro, syntax, notation, axiom, sorry.
-/
import Derived.Test.YtkdfafaiabidgaaDoorRows
import GoSem.ClaimSeven
namespace Go.Proofs.YtkdfafaiabidgaaDoor
namespace Rows

/-- THE TIED CARD OF 'slabvaultlaw05.ExtentBytes'. -/
def extentBytesCard : Claim7 := { stood := { row := extentBytesRow, standIns := [], harness := (true, "c135219db736603d132722452a55af254cc0e1674a9f531887c8815fe79379f2"), looks := false }, kinds := [], alts := [], laidByText := true, laidKinds := [.data], laidTests := true, laidLooks := .later }
def ExtentBytesCardSaid : Prop := Claim7.holds Tryd.pinned (.plain (OpenSpec.ofChange extentBytesSpec)) extentBytesCard

/-- THE TIED CARD OF 'slabvaultlaw05.ExtentLoads'. -/
def extentLoadsCard : Claim7 := { stood := { row := extentLoadsRow, standIns := [], harness := (true, "c135219db736603d132722452a55af254cc0e1674a9f531887c8815fe79379f2"), looks := false }, kinds := [], alts := [], laidByText := true, laidKinds := [.data], laidTests := true, laidLooks := .later }
def ExtentLoadsCardSaid : Prop := Claim7.holds Tryd.pinned (.plain (OpenSpec.ofChange extentLoadsSpec)) extentLoadsCard

/-- THE SECOND FORM's CARD OF 'slabvaultlaw05.ExtentBytes'. -/
def extentBytesUptoCard : Claim7 := { stood := { row := extentBytesUptoRow, standIns := [], harness := (true, "c135219db736603d132722452a55af254cc0e1674a9f531887c8815fe79379f2"), looks := false }, kinds := [], alts := [], laidByText := true, laidKinds := [.data], laidTests := true, laidLooks := .later }
def ExtentBytesUptoCardSaid : Prop := Claim7.holds Tryd.pinned (.plain (OpenSpec.upto extentBytesSpec)) extentBytesUptoCard

/-- THE SECOND FORM's CARD OF 'slabvaultlaw05.ExtentLoads'. -/
def extentLoadsUptoCard : Claim7 := { stood := { row := extentLoadsUptoRow, standIns := [], harness := (true, "c135219db736603d132722452a55af254cc0e1674a9f531887c8815fe79379f2"), looks := false }, kinds := [], alts := [], laidByText := true, laidKinds := [.data], laidTests := true, laidLooks := .later }
def ExtentLoadsUptoCardSaid : Prop := Claim7.holds Tryd.pinned (.plain (OpenSpec.upto extentLoadsSpec)) extentLoadsUptoCard
end Rows
end Go.Proofs.YtkdfafaiabidgaaDoor
