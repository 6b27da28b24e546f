/-
  DERIVED. GIVEN WITH THE SEED: THE CARDS: each row of YtcbfaahnhdmagaaDoorRows.lean that lists a variable, with what it lists TIED to the program's text (the seventh form; the later family's looks); each row that meets fmt, with fmt's text TOLD by the authors' own Lean function (tested against real Go, not proved from fmt's source: count such statements apart). THE CARD IS WHAT COUNTS. Prove the row's statement (the work); the ties are given (YtcbfaahnhdmagaaDoorTie.lean); close each card by the builder's one call (the guide's Derived/Test/ToyasCard.lean, 'card_holds'). Laid BY PROGRAM, IN A SANDBOX (cutbox-door.mjs). By AI agents, Wed Nov 11 2026. No macro, syntax, notation, axiom, sorry.
-/
import Derived.Test.YtcbfaahnhdmagaaDoorRows
import GoSem.ClaimSeven
namespace Go.Proofs.YtcbfaahnhdmagaaDoor
namespace Rows

/-- THE TIED CARD OF 'gunnylaw02.BitsTakes'. -/
def bitsTakesCard : Claim7 := { stood := { row := bitsTakesRow, standIns := [], harness := (true, "9a95fd9d0b0e536577e1df5e301c442cdf402af3c982a1ccd358cd69f227f455"), looks := false }, kinds := [], alts := [], laidByText := true, laidKinds := [.data], laidTests := true, laidLooks := .later }
def BitsTakesCardSaid : Prop := Claim7.holds Tryd.pinned (.plain (OpenSpec.ofChange bitsTakesSpec)) bitsTakesCard

/-- THE TIED CARD OF 'gunnylaw02.BitsPlays'. -/
def bitsPlaysCard : Claim7 := { stood := { row := bitsPlaysRow, standIns := [], harness := (true, "9a95fd9d0b0e536577e1df5e301c442cdf402af3c982a1ccd358cd69f227f455"), looks := false }, kinds := [], alts := [], laidByText := true, laidKinds := [.data], laidTests := true, laidLooks := .later }
def BitsPlaysCardSaid : Prop := Claim7.holds Tryd.pinned (.plain (OpenSpec.ofChange bitsPlaysSpec)) bitsPlaysCard

/-- THE TIED CARD OF 'gunnylaw02.BitsStops'. -/
def bitsStopsCard : Claim7 := { stood := { row := bitsStopsRow, standIns := [], harness := (true, "9a95fd9d0b0e536577e1df5e301c442cdf402af3c982a1ccd358cd69f227f455"), looks := false }, kinds := [], alts := [], laidByText := true, laidKinds := [.data], laidTests := true, laidLooks := .later }
def BitsStopsCardSaid : Prop := Claim7.holds Tryd.pinned (.plain (OpenSpec.ofChange bitsStopsSpec)) bitsStopsCard

/-- THE TIED CARD OF 'gunnylaw09.SlotsFine'. -/
def slotsFineCard : Claim7 := { stood := { row := slotsFineRow, standIns := [], harness := (true, "9a95fd9d0b0e536577e1df5e301c442cdf402af3c982a1ccd358cd69f227f455"), looks := false }, kinds := [], alts := [], laidByText := true, laidKinds := [.data], laidTests := true, laidLooks := .later }
def SlotsFineCardSaid : Prop := Claim7.holds Tryd.pinned (.plain (OpenSpec.ofChange slotsFineSpec)) slotsFineCard

/-- THE TIED CARD OF 'gunnylaw09.SlotsKeeps'. -/
def slotsKeepsCard : Claim7 := { stood := { row := slotsKeepsRow, standIns := [], harness := (true, "9a95fd9d0b0e536577e1df5e301c442cdf402af3c982a1ccd358cd69f227f455"), looks := false }, kinds := [], alts := [], laidByText := true, laidKinds := [.data], laidTests := true, laidLooks := .later }
def SlotsKeepsCardSaid : Prop := Claim7.holds Tryd.pinned (.plain (OpenSpec.ofChange slotsKeepsSpec)) slotsKeepsCard

/-- THE TIED CARD OF 'gunnylaw09.SlotsPlays'. -/
def slotsPlaysCard : Claim7 := { stood := { row := slotsPlaysRow, standIns := [], harness := (true, "9a95fd9d0b0e536577e1df5e301c442cdf402af3c982a1ccd358cd69f227f455"), looks := false }, kinds := [], alts := [], laidByText := true, laidKinds := [.data], laidTests := true, laidLooks := .later }
def SlotsPlaysCardSaid : Prop := Claim7.holds Tryd.pinned (.plain (OpenSpec.ofChange slotsPlaysSpec)) slotsPlaysCard

/-- THE SECOND FORM's CARD OF 'gunnylaw02.BitsTakes'. -/
def bitsTakesUptoCard : Claim7 := { stood := { row := bitsTakesUptoRow, standIns := [], harness := (true, "9a95fd9d0b0e536577e1df5e301c442cdf402af3c982a1ccd358cd69f227f455"), looks := false }, kinds := [], alts := [], laidByText := true, laidKinds := [.data], laidTests := true, laidLooks := .later }
def BitsTakesUptoCardSaid : Prop := Claim7.holds Tryd.pinned (.plain (OpenSpec.upto bitsTakesSpec)) bitsTakesUptoCard

/-- THE SECOND FORM's CARD OF 'gunnylaw02.BitsPlays'. -/
def bitsPlaysUptoCard : Claim7 := { stood := { row := bitsPlaysUptoRow, standIns := [], harness := (true, "9a95fd9d0b0e536577e1df5e301c442cdf402af3c982a1ccd358cd69f227f455"), looks := false }, kinds := [], alts := [], laidByText := true, laidKinds := [.data], laidTests := true, laidLooks := .later }
def BitsPlaysUptoCardSaid : Prop := Claim7.holds Tryd.pinned (.plain (OpenSpec.upto bitsPlaysSpec)) bitsPlaysUptoCard

/-- THE SECOND FORM's CARD OF 'gunnylaw02.BitsStops'. -/
def bitsStopsUptoCard : Claim7 := { stood := { row := bitsStopsUptoRow, standIns := [], harness := (true, "9a95fd9d0b0e536577e1df5e301c442cdf402af3c982a1ccd358cd69f227f455"), looks := false }, kinds := [], alts := [], laidByText := true, laidKinds := [.data], laidTests := true, laidLooks := .later }
def BitsStopsUptoCardSaid : Prop := Claim7.holds Tryd.pinned (.plain (OpenSpec.upto bitsStopsSpec)) bitsStopsUptoCard

/-- THE SECOND FORM's CARD OF 'gunnylaw09.SlotsFine'. -/
def slotsFineUptoCard : Claim7 := { stood := { row := slotsFineUptoRow, standIns := [], harness := (true, "9a95fd9d0b0e536577e1df5e301c442cdf402af3c982a1ccd358cd69f227f455"), looks := false }, kinds := [], alts := [], laidByText := true, laidKinds := [.data], laidTests := true, laidLooks := .later }
def SlotsFineUptoCardSaid : Prop := Claim7.holds Tryd.pinned (.plain (OpenSpec.upto slotsFineSpec)) slotsFineUptoCard

/-- THE SECOND FORM's CARD OF 'gunnylaw09.SlotsKeeps'. -/
def slotsKeepsUptoCard : Claim7 := { stood := { row := slotsKeepsUptoRow, standIns := [], harness := (true, "9a95fd9d0b0e536577e1df5e301c442cdf402af3c982a1ccd358cd69f227f455"), looks := false }, kinds := [], alts := [], laidByText := true, laidKinds := [.data], laidTests := true, laidLooks := .later }
def SlotsKeepsUptoCardSaid : Prop := Claim7.holds Tryd.pinned (.plain (OpenSpec.upto slotsKeepsSpec)) slotsKeepsUptoCard

/-- THE SECOND FORM's CARD OF 'gunnylaw09.SlotsPlays'. -/
def slotsPlaysUptoCard : Claim7 := { stood := { row := slotsPlaysUptoRow, standIns := [], harness := (true, "9a95fd9d0b0e536577e1df5e301c442cdf402af3c982a1ccd358cd69f227f455"), looks := false }, kinds := [], alts := [], laidByText := true, laidKinds := [.data], laidTests := true, laidLooks := .later }
def SlotsPlaysUptoCardSaid : Prop := Claim7.holds Tryd.pinned (.plain (OpenSpec.upto slotsPlaysSpec)) slotsPlaysUptoCard
end Rows
end Go.Proofs.YtcbfaahnhdmagaaDoor
