/-
  DERIVED. GIVEN WITH THE SEED: THE CARDS: each row of YtpajimkebnfneaaDoorRows.lean that lists a variable, with what it lists TIED to the program's text (the seventh form; the later family's looks); each row that meets fmt, with fmt's text TOLD by the authors' own Lean function (tested against real Go, not proved from fmt's source: count such statements apart). THE CARD IS WHAT COUNTS. Prove the row's statement (the work); the ties are given (YtpajimkebnfneaaDoorTie.lean); close each card by the builder's one call (the guide's Derived/Test/ToyasCard.lean, 'card_holds'). Laid BY PROGRAM, IN A SANDBOX (cutbox-door.mjs). By AI agents, Wed Nov 11 2026. No macro, syntax, notation, axiom, sorry.
-/
import Derived.Test.YtpajimkebnfneaaDoorRows
import GoSem.ClaimSeven
namespace Go.Proofs.YtpajimkebnfneaaDoor
namespace Rows

/-- THE TIED CARD OF 'slabvaultlaw06.HeapNobody'. -/
def heapNobodyCard : Claim7 := { stood := { row := heapNobodyRow, standIns := [], harness := (true, "e0d8a91bc07a32d2a276d1b233ae897c15c7a5c020db525d0c81acd5dc5d2959"), looks := false }, kinds := [], alts := [], laidByText := true, laidKinds := [.data], laidTests := true, laidLooks := .later }
def HeapNobodyCardSaid : Prop := Claim7.holds Tryd.pinned (.plain (OpenSpec.ofChange heapNobodySpec)) heapNobodyCard

/-- THE TIED CARD OF 'slabvaultlaw06.HeapAgain'. -/
def heapAgainCard : Claim7 := { stood := { row := heapAgainRow, standIns := [], harness := (true, "e0d8a91bc07a32d2a276d1b233ae897c15c7a5c020db525d0c81acd5dc5d2959"), looks := false }, kinds := [], alts := [], laidByText := true, laidKinds := [.data], laidTests := true, laidLooks := .later }
def HeapAgainCardSaid : Prop := Claim7.holds Tryd.pinned (.plain (OpenSpec.ofChange heapAgainSpec)) heapAgainCard

/-- THE TIED CARD OF 'slabvaultlaw06.HeapTurned'. -/
def heapTurnedCard : Claim7 := { stood := { row := heapTurnedRow, standIns := [], harness := (true, "e0d8a91bc07a32d2a276d1b233ae897c15c7a5c020db525d0c81acd5dc5d2959"), looks := false }, kinds := [], alts := [], laidByText := true, laidKinds := [.data], laidTests := true, laidLooks := .later }
def HeapTurnedCardSaid : Prop := Claim7.holds Tryd.pinned (.plain (OpenSpec.ofChange heapTurnedSpec)) heapTurnedCard

/-- THE TIED CARD OF 'slabvaultlaw06.HeapActs'. -/
def heapActsCard : Claim7 := { stood := { row := heapActsRow, standIns := [], harness := (true, "e0d8a91bc07a32d2a276d1b233ae897c15c7a5c020db525d0c81acd5dc5d2959"), looks := false }, kinds := [], alts := [], laidByText := true, laidKinds := [.data], laidTests := true, laidLooks := .later }
def HeapActsCardSaid : Prop := Claim7.holds Tryd.pinned (.plain (OpenSpec.ofChange heapActsSpec)) heapActsCard

/-- THE TIED CARD OF 'slabvaultlaw06.HeapBack'. -/
def heapBackCard : Claim7 := { stood := { row := heapBackRow, standIns := [], harness := (true, "e0d8a91bc07a32d2a276d1b233ae897c15c7a5c020db525d0c81acd5dc5d2959"), looks := false }, kinds := [], alts := [], laidByText := true, laidKinds := [.data], laidTests := true, laidLooks := .later }
def HeapBackCardSaid : Prop := Claim7.holds Tryd.pinned (.plain (OpenSpec.ofChange heapBackSpec)) heapBackCard

/-- THE SECOND FORM's CARD OF 'slabvaultlaw06.HeapNobody'. -/
def heapNobodyUptoCard : Claim7 := { stood := { row := heapNobodyUptoRow, standIns := [], harness := (true, "e0d8a91bc07a32d2a276d1b233ae897c15c7a5c020db525d0c81acd5dc5d2959"), looks := false }, kinds := [], alts := [], laidByText := true, laidKinds := [.data], laidTests := true, laidLooks := .later }
def HeapNobodyUptoCardSaid : Prop := Claim7.holds Tryd.pinned (.plain (OpenSpec.upto heapNobodySpec)) heapNobodyUptoCard

/-- THE SECOND FORM's CARD OF 'slabvaultlaw06.HeapAgain'. -/
def heapAgainUptoCard : Claim7 := { stood := { row := heapAgainUptoRow, standIns := [], harness := (true, "e0d8a91bc07a32d2a276d1b233ae897c15c7a5c020db525d0c81acd5dc5d2959"), looks := false }, kinds := [], alts := [], laidByText := true, laidKinds := [.data], laidTests := true, laidLooks := .later }
def HeapAgainUptoCardSaid : Prop := Claim7.holds Tryd.pinned (.plain (OpenSpec.upto heapAgainSpec)) heapAgainUptoCard

/-- THE SECOND FORM's CARD OF 'slabvaultlaw06.HeapTurned'. -/
def heapTurnedUptoCard : Claim7 := { stood := { row := heapTurnedUptoRow, standIns := [], harness := (true, "e0d8a91bc07a32d2a276d1b233ae897c15c7a5c020db525d0c81acd5dc5d2959"), looks := false }, kinds := [], alts := [], laidByText := true, laidKinds := [.data], laidTests := true, laidLooks := .later }
def HeapTurnedUptoCardSaid : Prop := Claim7.holds Tryd.pinned (.plain (OpenSpec.upto heapTurnedSpec)) heapTurnedUptoCard

/-- THE SECOND FORM's CARD OF 'slabvaultlaw06.HeapActs'. -/
def heapActsUptoCard : Claim7 := { stood := { row := heapActsUptoRow, standIns := [], harness := (true, "e0d8a91bc07a32d2a276d1b233ae897c15c7a5c020db525d0c81acd5dc5d2959"), looks := false }, kinds := [], alts := [], laidByText := true, laidKinds := [.data], laidTests := true, laidLooks := .later }
def HeapActsUptoCardSaid : Prop := Claim7.holds Tryd.pinned (.plain (OpenSpec.upto heapActsSpec)) heapActsUptoCard

/-- THE SECOND FORM's CARD OF 'slabvaultlaw06.HeapBack'. -/
def heapBackUptoCard : Claim7 := { stood := { row := heapBackUptoRow, standIns := [], harness := (true, "e0d8a91bc07a32d2a276d1b233ae897c15c7a5c020db525d0c81acd5dc5d2959"), looks := false }, kinds := [], alts := [], laidByText := true, laidKinds := [.data], laidTests := true, laidLooks := .later }
def HeapBackUptoCardSaid : Prop := Claim7.holds Tryd.pinned (.plain (OpenSpec.upto heapBackSpec)) heapBackUptoCard
end Rows
end Go.Proofs.YtpajimkebnfneaaDoor
