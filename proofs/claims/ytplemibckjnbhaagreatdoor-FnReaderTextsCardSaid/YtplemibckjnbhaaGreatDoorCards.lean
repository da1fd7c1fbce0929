/-
  DERIVED. GIVEN WITH THE SEED: THE CARDS: each row of YtplemibckjnbhaaGreatDoorRows.lean that lists a variable, with what it lists TIED to the program's text (the seventh form; the later family's looks); each row that meets fmt, with fmt's text TOLD by the authors' own Lean function (tested against real Go, not proved from fmt's source: count such statements apart). THE CARD IS WHAT COUNTS. Prove the row's statement (the work); the ties are given (YtplemibckjnbhaaGreatDoorTie.lean); close each card by the builder's one call (the guide's Derived/Test/ToyasCard.lean, 'card_holds'). Laid BY PROGRAM, IN A SANDBOX (cutbox-door.mjs). By AI agents, Wed Nov 11 2026. No macro, syntax, notation, axiom, sorry.
-/
import Derived.Test.YtplemibckjnbhaaGreatDoorRows
import GoSem.ClaimSeven
namespace Go.Proofs.YtplemibckjnbhaaGreatDoor
namespace Rows

/-- THE TIED CARD OF 'laws.FnReaderTexts'. -/
def fnReaderTextsCard : Claim7 := { stood := { row := fnReaderTextsRow, standIns := [], harness := (true, "33c2d677c919e6884060da8814f735e75bc3a22a150862ad499f3f6bb97d308e"), looks := true }, kinds := [], alts := [], laidByText := true, laidKinds := [.data, .data, .data, .data, .sentinel, .sentinel, .pinned], laidTests := true, laidLooks := .later }
def FnReaderTextsCardSaid : Prop := Claim7.holds Tryz.pinned (.plain (OpenSpec.ofChange fnReaderTextsSpec)) fnReaderTextsCard

/-- THE TIED CARD OF 'laws.FnSheets'. -/
def fnSheetsCard : Claim7 := { stood := { row := fnSheetsRow, standIns := [], harness := (true, "33c2d677c919e6884060da8814f735e75bc3a22a150862ad499f3f6bb97d308e"), looks := true }, kinds := [], alts := [], laidByText := true, laidKinds := [.data, .data, .data, .data, .sentinel, .sentinel, .pinned], laidTests := true, laidLooks := .later }
def FnSheetsCardSaid : Prop := Claim7.holds Tryz.pinned (.plain (OpenSpec.ofChange fnSheetsSpec)) fnSheetsCard

/-- THE SECOND FORM's CARD OF 'laws.FnReaderTexts'. -/
def fnReaderTextsUptoCard : Claim7 := { stood := { row := fnReaderTextsUptoRow, standIns := [], harness := (true, "33c2d677c919e6884060da8814f735e75bc3a22a150862ad499f3f6bb97d308e"), looks := true }, kinds := [], alts := [], laidByText := true, laidKinds := [.data, .data, .data, .data, .sentinel, .sentinel, .pinned], laidTests := true, laidLooks := .later }
def FnReaderTextsUptoCardSaid : Prop := Claim7.holds Tryz.pinned (.plain (OpenSpec.upto fnReaderTextsSpec)) fnReaderTextsUptoCard

/-- THE SECOND FORM's CARD OF 'laws.FnSheets'. -/
def fnSheetsUptoCard : Claim7 := { stood := { row := fnSheetsUptoRow, standIns := [], harness := (true, "33c2d677c919e6884060da8814f735e75bc3a22a150862ad499f3f6bb97d308e"), looks := true }, kinds := [], alts := [], laidByText := true, laidKinds := [.data, .data, .data, .data, .sentinel, .sentinel, .pinned], laidTests := true, laidLooks := .later }
def FnSheetsUptoCardSaid : Prop := Claim7.holds Tryz.pinned (.plain (OpenSpec.upto fnSheetsSpec)) fnSheetsUptoCard
end Rows
end Go.Proofs.YtplemibckjnbhaaGreatDoor
