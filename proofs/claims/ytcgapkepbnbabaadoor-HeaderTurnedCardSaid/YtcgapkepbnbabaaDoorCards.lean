/-
  DERIVED. GIVEN WITH THE SEED: THE CARDS: each row of YtcgapkepbnbabaaDoorRows.lean that lists a variable, with what it lists TIED to the program's text (the seventh form; the later family's looks); each row that meets fmt, with fmt's text TOLD by the authors' own Lean function (tested against real Go, not proved from fmt's source: count such statements apart). THE CARD IS WHAT COUNTS. Prove the row's statement (the work); the ties are given (YtcgapkepbnbabaaDoorTie.lean); close each card by the builder's one call (the guide's Derived/Test/ToyasCard.lean, 'card_holds'). Laid BY PROGRAM, IN A SANDBOX (cutbox-door.mjs). By AI agents, Wed Nov 11 2026. No macro, syntax, notation, axiom, sorry.
-/
import Derived.Test.YtcgapkepbnbabaaDoorRows
import GoSem.ClaimSeven
namespace Go.Proofs.YtcgapkepbnbabaaDoor
namespace Rows

/-- THE TIED CARD OF 'slabvaultlaw08.HeaderSizes'. -/
def headerSizesCard : Claim7 := { stood := { row := headerSizesRow, standIns := [], harness := (true, "ea0006e3ceda63a3e160a54112d09f81a1587e2fc4b36ab9b219b5fa3c23eaf0"), looks := true }, kinds := [], alts := [], laidByText := true, laidKinds := [.data], laidTests := true, laidLooks := .later }
def HeaderSizesCardSaid : Prop := Claim7.holds Tryd.pinned (.plain (OpenSpec.ofChange headerSizesSpec)) headerSizesCard

/-- THE TIED CARD OF 'slabvaultlaw08.HeaderLays'. -/
def headerLaysCard : Claim7 := { stood := { row := headerLaysRow, standIns := [], harness := (true, "ea0006e3ceda63a3e160a54112d09f81a1587e2fc4b36ab9b219b5fa3c23eaf0"), looks := true }, kinds := [], alts := [], laidByText := true, laidKinds := [.data], laidTests := true, laidLooks := .later }
def HeaderLaysCardSaid : Prop := Claim7.holds Tryd.pinned (.plain (OpenSpec.ofChange headerLaysSpec)) headerLaysCard

/-- THE TIED CARD OF 'slabvaultlaw08.HeaderRoom'. -/
def headerRoomCard : Claim7 := { stood := { row := headerRoomRow, standIns := [], harness := (true, "ea0006e3ceda63a3e160a54112d09f81a1587e2fc4b36ab9b219b5fa3c23eaf0"), looks := true }, kinds := [], alts := [], laidByText := true, laidKinds := [.data], laidTests := true, laidLooks := .later }
def HeaderRoomCardSaid : Prop := Claim7.holds Tryd.pinned (.plain (OpenSpec.ofChange headerRoomSpec)) headerRoomCard

/-- THE TIED CARD OF 'slabvaultlaw08.HeaderLoads'. -/
def headerLoadsCard : Claim7 := { stood := { row := headerLoadsRow, standIns := [], harness := (true, "ea0006e3ceda63a3e160a54112d09f81a1587e2fc4b36ab9b219b5fa3c23eaf0"), looks := true }, kinds := [], alts := [], laidByText := true, laidKinds := [.data], laidTests := true, laidLooks := .later }
def HeaderLoadsCardSaid : Prop := Claim7.holds Tryd.pinned (.plain (OpenSpec.ofChange headerLoadsSpec)) headerLoadsCard

/-- THE TIED CARD OF 'slabvaultlaw08.HeaderBack'. -/
def headerBackCard : Claim7 := { stood := { row := headerBackRow, standIns := [], harness := (true, "ea0006e3ceda63a3e160a54112d09f81a1587e2fc4b36ab9b219b5fa3c23eaf0"), looks := true }, kinds := [], alts := [], laidByText := true, laidKinds := [.data], laidTests := true, laidLooks := .later }
def HeaderBackCardSaid : Prop := Claim7.holds Tryd.pinned (.plain (OpenSpec.ofChange headerBackSpec)) headerBackCard

/-- THE TIED CARD OF 'slabvaultlaw08.HeaderTurned'. -/
def headerTurnedCard : Claim7 := { stood := { row := headerTurnedRow, standIns := [], harness := (true, "ea0006e3ceda63a3e160a54112d09f81a1587e2fc4b36ab9b219b5fa3c23eaf0"), looks := true }, kinds := [], alts := [], laidByText := true, laidKinds := [.data], laidTests := true, laidLooks := .later }
def HeaderTurnedCardSaid : Prop := Claim7.holds Tryd.pinned (.plain (OpenSpec.ofChange headerTurnedSpec)) headerTurnedCard

/-- THE SECOND FORM's CARD OF 'slabvaultlaw08.HeaderSizes'. -/
def headerSizesUptoCard : Claim7 := { stood := { row := headerSizesUptoRow, standIns := [], harness := (true, "ea0006e3ceda63a3e160a54112d09f81a1587e2fc4b36ab9b219b5fa3c23eaf0"), looks := true }, kinds := [], alts := [], laidByText := true, laidKinds := [.data], laidTests := true, laidLooks := .later }
def HeaderSizesUptoCardSaid : Prop := Claim7.holds Tryd.pinned (.plain (OpenSpec.upto headerSizesSpec)) headerSizesUptoCard

/-- THE SECOND FORM's CARD OF 'slabvaultlaw08.HeaderLays'. -/
def headerLaysUptoCard : Claim7 := { stood := { row := headerLaysUptoRow, standIns := [], harness := (true, "ea0006e3ceda63a3e160a54112d09f81a1587e2fc4b36ab9b219b5fa3c23eaf0"), looks := true }, kinds := [], alts := [], laidByText := true, laidKinds := [.data], laidTests := true, laidLooks := .later }
def HeaderLaysUptoCardSaid : Prop := Claim7.holds Tryd.pinned (.plain (OpenSpec.upto headerLaysSpec)) headerLaysUptoCard

/-- THE SECOND FORM's CARD OF 'slabvaultlaw08.HeaderRoom'. -/
def headerRoomUptoCard : Claim7 := { stood := { row := headerRoomUptoRow, standIns := [], harness := (true, "ea0006e3ceda63a3e160a54112d09f81a1587e2fc4b36ab9b219b5fa3c23eaf0"), looks := true }, kinds := [], alts := [], laidByText := true, laidKinds := [.data], laidTests := true, laidLooks := .later }
def HeaderRoomUptoCardSaid : Prop := Claim7.holds Tryd.pinned (.plain (OpenSpec.upto headerRoomSpec)) headerRoomUptoCard

/-- THE SECOND FORM's CARD OF 'slabvaultlaw08.HeaderLoads'. -/
def headerLoadsUptoCard : Claim7 := { stood := { row := headerLoadsUptoRow, standIns := [], harness := (true, "ea0006e3ceda63a3e160a54112d09f81a1587e2fc4b36ab9b219b5fa3c23eaf0"), looks := true }, kinds := [], alts := [], laidByText := true, laidKinds := [.data], laidTests := true, laidLooks := .later }
def HeaderLoadsUptoCardSaid : Prop := Claim7.holds Tryd.pinned (.plain (OpenSpec.upto headerLoadsSpec)) headerLoadsUptoCard

/-- THE SECOND FORM's CARD OF 'slabvaultlaw08.HeaderBack'. -/
def headerBackUptoCard : Claim7 := { stood := { row := headerBackUptoRow, standIns := [], harness := (true, "ea0006e3ceda63a3e160a54112d09f81a1587e2fc4b36ab9b219b5fa3c23eaf0"), looks := true }, kinds := [], alts := [], laidByText := true, laidKinds := [.data], laidTests := true, laidLooks := .later }
def HeaderBackUptoCardSaid : Prop := Claim7.holds Tryd.pinned (.plain (OpenSpec.upto headerBackSpec)) headerBackUptoCard

/-- THE SECOND FORM's CARD OF 'slabvaultlaw08.HeaderTurned'. -/
def headerTurnedUptoCard : Claim7 := { stood := { row := headerTurnedUptoRow, standIns := [], harness := (true, "ea0006e3ceda63a3e160a54112d09f81a1587e2fc4b36ab9b219b5fa3c23eaf0"), looks := true }, kinds := [], alts := [], laidByText := true, laidKinds := [.data], laidTests := true, laidLooks := .later }
def HeaderTurnedUptoCardSaid : Prop := Claim7.holds Tryd.pinned (.plain (OpenSpec.upto headerTurnedSpec)) headerTurnedUptoCard
end Rows
end Go.Proofs.YtcgapkepbnbabaaDoor
