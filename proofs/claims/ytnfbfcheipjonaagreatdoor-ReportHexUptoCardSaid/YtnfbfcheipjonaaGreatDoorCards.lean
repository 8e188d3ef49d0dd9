/-
  DERIVED. GIVEN WITH THE SEED: THE CARDS: each row of YtnfbfcheipjonaaGreatDoorRows.lean that lists a variable, with what it lists TIED to the program's text (the seventh form; the later family's looks); each row that meets fmt, with fmt's text TOLD by the authors' own Lean function (tested against real Go, not proved from fmt's source: count such statements apart). THE CARD IS WHAT COUNTS. Prove the row's statement (the work); the ties are given (YtnfbfcheipjonaaGreatDoorTie.lean); close each card by the builder's one call (the guide's Derived/Test/ToyasCard.lean, 'card_holds'). Laid BY PROGRAM, IN A SANDBOX (cutbox-door.mjs). By AI agents, Wed Nov 11 2026. No macro, syntax, notation, axiom, sorry.
-/
import Derived.Test.YtnfbfcheipjonaaGreatDoorRows
import GoSem.ClaimSeven
namespace Go.Proofs.YtnfbfcheipjonaaGreatDoor
namespace Rows

/-- THE TIED CARD OF 'hauberklaw37.ReportHex'. -/
def reportHexCard : Claim7 := { stood := { row := reportHexRow, standIns := [], harness := (true, "4293eecb3a21bad3e4b5b1561c5646c3db380482f41ee4267265fe225ecb9037"), looks := true }, kinds := [], alts := [], laidByText := true, laidKinds := [.data, .data, .data, .listed, .data], laidTests := true, laidLooks := .later }
def ReportHexCardSaid : Prop := Claim7.holds Tryz.pinned (.plain (OpenSpec.ofChange reportHexSpec)) reportHexCard

/-- THE TIED CARD OF 'hauberklaw37.ReportBack'. -/
def reportBackCard : Claim7 := { stood := { row := reportBackRow, standIns := [], harness := (true, "4293eecb3a21bad3e4b5b1561c5646c3db380482f41ee4267265fe225ecb9037"), looks := true }, kinds := [], alts := [], laidByText := true, laidKinds := [.data, .data, .data, .listed, .data], laidTests := true, laidLooks := .later }
def ReportBackCardSaid : Prop := Claim7.holds Tryz.pinned (.plain (OpenSpec.ofChange reportBackSpec)) reportBackCard

/-- THE TIED CARD OF 'hauberklaw37.ReportRun'. -/
def reportRunCard : Claim7 := { stood := { row := reportRunRow, standIns := [], harness := (true, "4293eecb3a21bad3e4b5b1561c5646c3db380482f41ee4267265fe225ecb9037"), looks := true }, kinds := [], alts := [], laidByText := true, laidKinds := [.data, .data, .data, .listed, .data], laidTests := true, laidLooks := .later }
def ReportRunCardSaid : Prop := Claim7.holds Tryz.pinned (.plain (OpenSpec.ofChange reportRunSpec)) reportRunCard

/-- THE SECOND FORM's CARD OF 'hauberklaw37.ReportHex'. -/
def reportHexUptoCard : Claim7 := { stood := { row := reportHexUptoRow, standIns := [], harness := (true, "4293eecb3a21bad3e4b5b1561c5646c3db380482f41ee4267265fe225ecb9037"), looks := true }, kinds := [], alts := [], laidByText := true, laidKinds := [.data, .data, .data, .listed, .data], laidTests := true, laidLooks := .later }
def ReportHexUptoCardSaid : Prop := Claim7.holds Tryz.pinned (.plain (OpenSpec.upto reportHexSpec)) reportHexUptoCard

/-- THE SECOND FORM's CARD OF 'hauberklaw37.ReportBack'. -/
def reportBackUptoCard : Claim7 := { stood := { row := reportBackUptoRow, standIns := [], harness := (true, "4293eecb3a21bad3e4b5b1561c5646c3db380482f41ee4267265fe225ecb9037"), looks := true }, kinds := [], alts := [], laidByText := true, laidKinds := [.data, .data, .data, .listed, .data], laidTests := true, laidLooks := .later }
def ReportBackUptoCardSaid : Prop := Claim7.holds Tryz.pinned (.plain (OpenSpec.upto reportBackSpec)) reportBackUptoCard

/-- THE SECOND FORM's CARD OF 'hauberklaw37.ReportRun'. -/
def reportRunUptoCard : Claim7 := { stood := { row := reportRunUptoRow, standIns := [], harness := (true, "4293eecb3a21bad3e4b5b1561c5646c3db380482f41ee4267265fe225ecb9037"), looks := true }, kinds := [], alts := [], laidByText := true, laidKinds := [.data, .data, .data, .listed, .data], laidTests := true, laidLooks := .later }
def ReportRunUptoCardSaid : Prop := Claim7.holds Tryz.pinned (.plain (OpenSpec.upto reportRunSpec)) reportRunUptoCard
end Rows
end Go.Proofs.YtnfbfcheipjonaaGreatDoor
