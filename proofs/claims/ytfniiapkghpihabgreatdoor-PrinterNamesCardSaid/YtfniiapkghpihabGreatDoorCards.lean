/-
  DERIVED. GIVEN WITH THE SEED: THE CARDS: each row of YtfniiapkghpihabGreatDoorRows.lean that lists a variable, with what it lists TIED to the program's text (the seventh form; the later family's looks); each row that meets fmt, with fmt's text TOLD by the authors' own Lean function (tested against real Go, not proved from fmt's source: count such statements apart). THE CARD IS WHAT COUNTS. Prove the row's statement (the work); the ties are given (YtfniiapkghpihabGreatDoorTie.lean); close each card by the builder's one call (the guide's Derived/Test/ToyasCard.lean, 'card_holds'). Laid BY PROGRAM, IN A SANDBOX (cutbox-door.mjs). By AI agents, Wed Nov 11 2026. No macro, syntax, notation, axiom, sorry.
-/
import Derived.Test.YtfniiapkghpihabGreatDoorRows
import GoSem.ClaimSeven
namespace Go.Proofs.YtfniiapkghpihabGreatDoor
namespace Rows

/-- THE TIED CARD OF 'tailwaterlaw11.PrinterNames'. -/
def printerNamesCard : Claim7 := { stood := { row := printerNamesRow, standIns := [], harness := (true, "cfa904b55a43ccfcf64675fb257457fd8b5907e6ced276bfc84ded3641174562"), looks := true }, kinds := [], alts := [], laidByText := true, laidKinds := [.data, .data, .data, .data, .sentinel, .sentinel, .listed, .data, .pinned], laidTests := true, laidLooks := .later }
def PrinterNamesCardSaid : Prop := Claim7.holds Tryz.pinned (.plain (OpenSpec.ofChange printerNamesSpec)) printerNamesCard

/-- THE TIED CARD OF 'tailwaterlaw10.ChecksText'. -/
def checksTextCard : Claim7 := { stood := { row := checksTextRow, standIns := [], harness := (true, "cfa904b55a43ccfcf64675fb257457fd8b5907e6ced276bfc84ded3641174562"), looks := true }, kinds := [], alts := [], laidByText := true, laidKinds := [.data, .data, .data, .data, .sentinel, .sentinel, .listed, .data, .pinned], laidTests := true, laidLooks := .later }
def ChecksTextCardSaid : Prop := Claim7.holds Tryz.pinned (.plain (OpenSpec.ofChange checksTextSpec)) checksTextCard

/-- THE SECOND FORM's CARD OF 'tailwaterlaw11.PrinterNames'. -/
def printerNamesUptoCard : Claim7 := { stood := { row := printerNamesUptoRow, standIns := [], harness := (true, "cfa904b55a43ccfcf64675fb257457fd8b5907e6ced276bfc84ded3641174562"), looks := true }, kinds := [], alts := [], laidByText := true, laidKinds := [.data, .data, .data, .data, .sentinel, .sentinel, .listed, .data, .pinned], laidTests := true, laidLooks := .later }
def PrinterNamesUptoCardSaid : Prop := Claim7.holds Tryz.pinned (.plain (OpenSpec.upto printerNamesSpec)) printerNamesUptoCard

/-- THE SECOND FORM's CARD OF 'tailwaterlaw10.ChecksText'. -/
def checksTextUptoCard : Claim7 := { stood := { row := checksTextUptoRow, standIns := [], harness := (true, "cfa904b55a43ccfcf64675fb257457fd8b5907e6ced276bfc84ded3641174562"), looks := true }, kinds := [], alts := [], laidByText := true, laidKinds := [.data, .data, .data, .data, .sentinel, .sentinel, .listed, .data, .pinned], laidTests := true, laidLooks := .later }
def ChecksTextUptoCardSaid : Prop := Claim7.holds Tryz.pinned (.plain (OpenSpec.upto checksTextSpec)) checksTextUptoCard
end Rows
end Go.Proofs.YtfniiapkghpihabGreatDoor
