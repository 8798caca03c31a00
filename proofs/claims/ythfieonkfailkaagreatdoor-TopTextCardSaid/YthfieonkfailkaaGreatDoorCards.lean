/-
  DERIVED. GIVEN WITH THE SEED: THE CARDS: each row of YthfieonkfailkaaGreatDoorRows.lean that lists a variable, with what it lists TIED to the program's text (the seventh form; the later family's looks); each row that meets fmt, with fmt's text TOLD by the authors' own Lean function (tested against real Go, not proved from fmt's source: count such statements apart). THE CARD IS WHAT COUNTS. Prove the row's statement (the work); the ties are given (YthfieonkfailkaaGreatDoorTie.lean); close each card by the builder's one call (the guide's Derived/Test/ToyasCard.lean, 'card_holds'). Laid BY PROGRAM, IN A SANDBOX (cutbox-door.mjs). By AI agents, Wed Nov 11 2026. No macro, syntax, notation, axiom, sorry.
-/
import Derived.Test.YthfieonkfailkaaGreatDoorRows
import GoSem.ClaimSeven
namespace Go.Proofs.YthfieonkfailkaaGreatDoor
namespace Rows

/-- THE TIED CARD OF 'tailwaterlaw05.ExprsNames'. -/
def exprsNamesCard : Claim7 := { stood := { row := exprsNamesRow, standIns := [], harness := (true, "bf0b330da3f38191d1c4fd58cb5f279ce7e969ffc4cfaddb3d779052a3516355"), looks := true }, kinds := [], alts := [], laidByText := true, laidKinds := [.data, .data, .data, .data, .sentinel, .sentinel, .listed, .data, .pinned], laidTests := true, laidLooks := .later }
def ExprsNamesCardSaid : Prop := Claim7.holds Tryz.pinned (.plain (OpenSpec.ofChange exprsNamesSpec)) exprsNamesCard

/-- THE TIED CARD OF 'tailwaterlaw05.ExprsCounts'. -/
def exprsCountsCard : Claim7 := { stood := { row := exprsCountsRow, standIns := [], harness := (true, "bf0b330da3f38191d1c4fd58cb5f279ce7e969ffc4cfaddb3d779052a3516355"), looks := true }, kinds := [], alts := [], laidByText := true, laidKinds := [.data, .data, .data, .data, .sentinel, .sentinel, .listed, .data, .pinned], laidTests := true, laidLooks := .later }
def ExprsCountsCardSaid : Prop := Claim7.holds Tryz.pinned (.plain (OpenSpec.ofChange exprsCountsSpec)) exprsCountsCard

/-- THE TIED CARD OF 'tailwaterlaw05.ExprsBack'. -/
def exprsBackCard : Claim7 := { stood := { row := exprsBackRow, standIns := [], harness := (true, "bf0b330da3f38191d1c4fd58cb5f279ce7e969ffc4cfaddb3d779052a3516355"), looks := true }, kinds := [], alts := [], laidByText := true, laidKinds := [.data, .data, .data, .data, .sentinel, .sentinel, .listed, .data, .pinned], laidTests := true, laidLooks := .later }
def ExprsBackCardSaid : Prop := Claim7.holds Tryz.pinned (.plain (OpenSpec.ofChange exprsBackSpec)) exprsBackCard

/-- THE TIED CARD OF 'tailwaterlaw05.ExprsBrackets'. -/
def exprsBracketsCard : Claim7 := { stood := { row := exprsBracketsRow, standIns := [], harness := (true, "bf0b330da3f38191d1c4fd58cb5f279ce7e969ffc4cfaddb3d779052a3516355"), looks := true }, kinds := [], alts := [], laidByText := true, laidKinds := [.data, .data, .data, .data, .sentinel, .sentinel, .listed, .data, .pinned], laidTests := true, laidLooks := .later }
def ExprsBracketsCardSaid : Prop := Claim7.holds Tryz.pinned (.plain (OpenSpec.ofChange exprsBracketsSpec)) exprsBracketsCard

/-- THE TIED CARD OF 'tailwaterlaw05.ExprsBinds'. -/
def exprsBindsCard : Claim7 := { stood := { row := exprsBindsRow, standIns := [], harness := (true, "bf0b330da3f38191d1c4fd58cb5f279ce7e969ffc4cfaddb3d779052a3516355"), looks := true }, kinds := [], alts := [], laidByText := true, laidKinds := [.data, .data, .data, .data, .sentinel, .sentinel, .listed, .data, .pinned], laidTests := true, laidLooks := .later }
def ExprsBindsCardSaid : Prop := Claim7.holds Tryz.pinned (.plain (OpenSpec.ofChange exprsBindsSpec)) exprsBindsCard

/-- THE TIED CARD OF 'tailwatertop.TopText'. -/
def topTextCard : Claim7 := { stood := { row := topTextRow, standIns := [], harness := (true, "bf0b330da3f38191d1c4fd58cb5f279ce7e969ffc4cfaddb3d779052a3516355"), looks := true }, kinds := [], alts := [], laidByText := true, laidKinds := [.data, .data, .data, .data, .sentinel, .sentinel, .listed, .data, .pinned], laidTests := true, laidLooks := .later }
def TopTextCardSaid : Prop := Claim7.holds Tryz.pinned (.plain (OpenSpec.ofChange topTextSpec)) topTextCard

/-- THE TIED CARD OF 'tailwaterlaw11.PrinterWrites'. -/
def printerWritesCard : Claim7 := { stood := { row := printerWritesRow, standIns := [], harness := (true, "bf0b330da3f38191d1c4fd58cb5f279ce7e969ffc4cfaddb3d779052a3516355"), looks := true }, kinds := [], alts := [], laidByText := true, laidKinds := [.data, .data, .data, .data, .sentinel, .sentinel, .listed, .data, .pinned], laidTests := true, laidLooks := .later }
def PrinterWritesCardSaid : Prop := Claim7.holds Tryz.pinned (.plain (OpenSpec.ofChange printerWritesSpec)) printerWritesCard

/-- THE TIED CARD OF 'tailwaterlaw11.PrinterFew'. -/
def printerFewCard : Claim7 := { stood := { row := printerFewRow, standIns := [], harness := (true, "bf0b330da3f38191d1c4fd58cb5f279ce7e969ffc4cfaddb3d779052a3516355"), looks := true }, kinds := [], alts := [], laidByText := true, laidKinds := [.data, .data, .data, .data, .sentinel, .sentinel, .listed, .data, .pinned], laidTests := true, laidLooks := .later }
def PrinterFewCardSaid : Prop := Claim7.holds Tryz.pinned (.plain (OpenSpec.ofChange printerFewSpec)) printerFewCard

/-- THE TIED CARD OF 'tailwaterlaw11.PrinterBack'. -/
def printerBackCard : Claim7 := { stood := { row := printerBackRow, standIns := [], harness := (true, "bf0b330da3f38191d1c4fd58cb5f279ce7e969ffc4cfaddb3d779052a3516355"), looks := true }, kinds := [], alts := [], laidByText := true, laidKinds := [.data, .data, .data, .data, .sentinel, .sentinel, .listed, .data, .pinned], laidTests := true, laidLooks := .later }
def PrinterBackCardSaid : Prop := Claim7.holds Tryz.pinned (.plain (OpenSpec.ofChange printerBackSpec)) printerBackCard

/-- THE SECOND FORM's CARD OF 'tailwaterlaw05.ExprsNames'. -/
def exprsNamesUptoCard : Claim7 := { stood := { row := exprsNamesUptoRow, standIns := [], harness := (true, "bf0b330da3f38191d1c4fd58cb5f279ce7e969ffc4cfaddb3d779052a3516355"), looks := true }, kinds := [], alts := [], laidByText := true, laidKinds := [.data, .data, .data, .data, .sentinel, .sentinel, .listed, .data, .pinned], laidTests := true, laidLooks := .later }
def ExprsNamesUptoCardSaid : Prop := Claim7.holds Tryz.pinned (.plain (OpenSpec.upto exprsNamesSpec)) exprsNamesUptoCard

/-- THE SECOND FORM's CARD OF 'tailwaterlaw05.ExprsCounts'. -/
def exprsCountsUptoCard : Claim7 := { stood := { row := exprsCountsUptoRow, standIns := [], harness := (true, "bf0b330da3f38191d1c4fd58cb5f279ce7e969ffc4cfaddb3d779052a3516355"), looks := true }, kinds := [], alts := [], laidByText := true, laidKinds := [.data, .data, .data, .data, .sentinel, .sentinel, .listed, .data, .pinned], laidTests := true, laidLooks := .later }
def ExprsCountsUptoCardSaid : Prop := Claim7.holds Tryz.pinned (.plain (OpenSpec.upto exprsCountsSpec)) exprsCountsUptoCard

/-- THE SECOND FORM's CARD OF 'tailwaterlaw05.ExprsBack'. -/
def exprsBackUptoCard : Claim7 := { stood := { row := exprsBackUptoRow, standIns := [], harness := (true, "bf0b330da3f38191d1c4fd58cb5f279ce7e969ffc4cfaddb3d779052a3516355"), looks := true }, kinds := [], alts := [], laidByText := true, laidKinds := [.data, .data, .data, .data, .sentinel, .sentinel, .listed, .data, .pinned], laidTests := true, laidLooks := .later }
def ExprsBackUptoCardSaid : Prop := Claim7.holds Tryz.pinned (.plain (OpenSpec.upto exprsBackSpec)) exprsBackUptoCard

/-- THE SECOND FORM's CARD OF 'tailwaterlaw05.ExprsBrackets'. -/
def exprsBracketsUptoCard : Claim7 := { stood := { row := exprsBracketsUptoRow, standIns := [], harness := (true, "bf0b330da3f38191d1c4fd58cb5f279ce7e969ffc4cfaddb3d779052a3516355"), looks := true }, kinds := [], alts := [], laidByText := true, laidKinds := [.data, .data, .data, .data, .sentinel, .sentinel, .listed, .data, .pinned], laidTests := true, laidLooks := .later }
def ExprsBracketsUptoCardSaid : Prop := Claim7.holds Tryz.pinned (.plain (OpenSpec.upto exprsBracketsSpec)) exprsBracketsUptoCard

/-- THE SECOND FORM's CARD OF 'tailwaterlaw05.ExprsBinds'. -/
def exprsBindsUptoCard : Claim7 := { stood := { row := exprsBindsUptoRow, standIns := [], harness := (true, "bf0b330da3f38191d1c4fd58cb5f279ce7e969ffc4cfaddb3d779052a3516355"), looks := true }, kinds := [], alts := [], laidByText := true, laidKinds := [.data, .data, .data, .data, .sentinel, .sentinel, .listed, .data, .pinned], laidTests := true, laidLooks := .later }
def ExprsBindsUptoCardSaid : Prop := Claim7.holds Tryz.pinned (.plain (OpenSpec.upto exprsBindsSpec)) exprsBindsUptoCard

/-- THE SECOND FORM's CARD OF 'tailwatertop.TopText'. -/
def topTextUptoCard : Claim7 := { stood := { row := topTextUptoRow, standIns := [], harness := (true, "bf0b330da3f38191d1c4fd58cb5f279ce7e969ffc4cfaddb3d779052a3516355"), looks := true }, kinds := [], alts := [], laidByText := true, laidKinds := [.data, .data, .data, .data, .sentinel, .sentinel, .listed, .data, .pinned], laidTests := true, laidLooks := .later }
def TopTextUptoCardSaid : Prop := Claim7.holds Tryz.pinned (.plain (OpenSpec.upto topTextSpec)) topTextUptoCard

/-- THE SECOND FORM's CARD OF 'tailwaterlaw11.PrinterWrites'. -/
def printerWritesUptoCard : Claim7 := { stood := { row := printerWritesUptoRow, standIns := [], harness := (true, "bf0b330da3f38191d1c4fd58cb5f279ce7e969ffc4cfaddb3d779052a3516355"), looks := true }, kinds := [], alts := [], laidByText := true, laidKinds := [.data, .data, .data, .data, .sentinel, .sentinel, .listed, .data, .pinned], laidTests := true, laidLooks := .later }
def PrinterWritesUptoCardSaid : Prop := Claim7.holds Tryz.pinned (.plain (OpenSpec.upto printerWritesSpec)) printerWritesUptoCard

/-- THE SECOND FORM's CARD OF 'tailwaterlaw11.PrinterFew'. -/
def printerFewUptoCard : Claim7 := { stood := { row := printerFewUptoRow, standIns := [], harness := (true, "bf0b330da3f38191d1c4fd58cb5f279ce7e969ffc4cfaddb3d779052a3516355"), looks := true }, kinds := [], alts := [], laidByText := true, laidKinds := [.data, .data, .data, .data, .sentinel, .sentinel, .listed, .data, .pinned], laidTests := true, laidLooks := .later }
def PrinterFewUptoCardSaid : Prop := Claim7.holds Tryz.pinned (.plain (OpenSpec.upto printerFewSpec)) printerFewUptoCard

/-- THE SECOND FORM's CARD OF 'tailwaterlaw11.PrinterBack'. -/
def printerBackUptoCard : Claim7 := { stood := { row := printerBackUptoRow, standIns := [], harness := (true, "bf0b330da3f38191d1c4fd58cb5f279ce7e969ffc4cfaddb3d779052a3516355"), looks := true }, kinds := [], alts := [], laidByText := true, laidKinds := [.data, .data, .data, .data, .sentinel, .sentinel, .listed, .data, .pinned], laidTests := true, laidLooks := .later }
def PrinterBackUptoCardSaid : Prop := Claim7.holds Tryz.pinned (.plain (OpenSpec.upto printerBackSpec)) printerBackUptoCard
end Rows
end Go.Proofs.YthfieonkfailkaaGreatDoor
