/-
  DERIVED. GIVEN WITH THE SEED: THE CARDS: each row of YtgpoaohglpecgaaGreatDoorRows.lean that lists a variable, with what it lists TIED to the program's text (the seventh form; the later family's looks); each row that meets fmt, with fmt's text TOLD by the authors' own Lean function (tested against real Go, not proved from fmt's source: count such statements apart). THE CARD IS WHAT COUNTS. Prove the row's statement (the work); the ties are given (YtgpoaohglpecgaaGreatDoorTie.lean); close each card by the builder's one call (the guide's Derived/Test/ToyasCard.lean, 'card_holds'). Laid BY PROGRAM, IN A SANDBOX (cutbox-door.mjs). By AI agents, Wed Nov 11 2026. No macro, syntax, notation, axiom, sorry.
-/
import Derived.Test.YtgpoaohglpecgaaGreatDoorRows
import GoSem.ClaimSeven
namespace Go.Proofs.YtgpoaohglpecgaaGreatDoor
namespace Rows

/-- THE TIED CARD OF 'tailwaterlaw09.ParserBlanks'. -/
def parserBlanksCard : Claim7 := { stood := { row := parserBlanksRow, standIns := [], harness := (true, "f76503200573a9ace24fabc76f9dd4d4aa1c0530312d2ea205b13730c496f1fb"), looks := true }, kinds := [], alts := [], laidByText := true, laidKinds := [.data, .data, .data, .data, .sentinel, .sentinel, .listed, .data, .pinned], laidTests := true, laidLooks := .later }
def ParserBlanksCardSaid : Prop := Claim7.holds Tryz.pinned (.plain (OpenSpec.ofChange parserBlanksSpec)) parserBlanksCard

/-- THE TIED CARD OF 'tailwaterlaw09.ParserValid'. -/
def parserValidCard : Claim7 := { stood := { row := parserValidRow, standIns := [], harness := (true, "f76503200573a9ace24fabc76f9dd4d4aa1c0530312d2ea205b13730c496f1fb"), looks := true }, kinds := [], alts := [], laidByText := true, laidKinds := [.data, .data, .data, .data, .sentinel, .sentinel, .listed, .data, .pinned], laidTests := true, laidLooks := .later }
def ParserValidCardSaid : Prop := Claim7.holds Tryz.pinned (.plain (OpenSpec.ofChange parserValidSpec)) parserValidCard

/-- THE TIED CARD OF 'tailwaterlaw09.ParserExact'. -/
def parserExactCard : Claim7 := { stood := { row := parserExactRow, standIns := [], harness := (true, "f76503200573a9ace24fabc76f9dd4d4aa1c0530312d2ea205b13730c496f1fb"), looks := true }, kinds := [], alts := [], laidByText := true, laidKinds := [.data, .data, .data, .data, .sentinel, .sentinel, .listed, .data, .pinned], laidTests := true, laidLooks := .later }
def ParserExactCardSaid : Prop := Claim7.holds Tryz.pinned (.plain (OpenSpec.ofChange parserExactSpec)) parserExactCard

/-- THE TIED CARD OF 'tailwaterlaw09.ParserParts'. -/
def parserPartsCard : Claim7 := { stood := { row := parserPartsRow, standIns := [], harness := (true, "f76503200573a9ace24fabc76f9dd4d4aa1c0530312d2ea205b13730c496f1fb"), looks := true }, kinds := [], alts := [], laidByText := true, laidKinds := [.data, .data, .data, .data, .sentinel, .sentinel, .listed, .data, .pinned], laidTests := true, laidLooks := .later }
def ParserPartsCardSaid : Prop := Claim7.holds Tryz.pinned (.plain (OpenSpec.ofChange parserPartsSpec)) parserPartsCard

/-- THE TIED CARD OF 'tailwaterlaw10.ChecksText'. -/
def checksTextCard : Claim7 := { stood := { row := checksTextRow, standIns := [], harness := (true, "f76503200573a9ace24fabc76f9dd4d4aa1c0530312d2ea205b13730c496f1fb"), looks := true }, kinds := [], alts := [], laidByText := true, laidKinds := [.data, .data, .data, .data, .sentinel, .sentinel, .listed, .data, .pinned], laidTests := true, laidLooks := .later }
def ChecksTextCardSaid : Prop := Claim7.holds Tryz.pinned (.plain (OpenSpec.ofChange checksTextSpec)) checksTextCard

/-- THE TIED CARD OF 'tailwaterlaw11.PrinterRead'. -/
def printerReadCard : Claim7 := { stood := { row := printerReadRow, standIns := [], harness := (true, "f76503200573a9ace24fabc76f9dd4d4aa1c0530312d2ea205b13730c496f1fb"), looks := true }, kinds := [], alts := [], laidByText := true, laidKinds := [.data, .data, .data, .data, .sentinel, .sentinel, .listed, .data, .pinned], laidTests := true, laidLooks := .later }
def PrinterReadCardSaid : Prop := Claim7.holds Tryz.pinned (.plain (OpenSpec.ofChange printerReadSpec)) printerReadCard

/-- THE TIED CARD OF 'tailwaterlaw10.ChecksCompiles'. -/
def checksCompilesCard : Claim7 := { stood := { row := checksCompilesRow, standIns := [], harness := (true, "f76503200573a9ace24fabc76f9dd4d4aa1c0530312d2ea205b13730c496f1fb"), looks := true }, kinds := [], alts := [], laidByText := true, laidKinds := [.data, .data, .data, .data, .sentinel, .sentinel, .listed, .data, .pinned], laidTests := true, laidLooks := .later }
def ChecksCompilesCardSaid : Prop := Claim7.holds Tryz.pinned (.plain (OpenSpec.ofChange checksCompilesSpec)) checksCompilesCard

/-- THE TIED CARD OF 'tailwaterlaw10.ChecksConstant'. -/
def checksConstantCard : Claim7 := { stood := { row := checksConstantRow, standIns := [], harness := (true, "f76503200573a9ace24fabc76f9dd4d4aa1c0530312d2ea205b13730c496f1fb"), looks := true }, kinds := [], alts := [], laidByText := true, laidKinds := [.data, .data, .data, .data, .sentinel, .sentinel, .listed, .data, .pinned], laidTests := true, laidLooks := .later }
def ChecksConstantCardSaid : Prop := Claim7.holds Tryz.pinned (.plain (OpenSpec.ofChange checksConstantSpec)) checksConstantCard

/-- THE TIED CARD OF 'tailwaterlaw24.GraphParts'. -/
def graphPartsCard : Claim7 := { stood := { row := graphPartsRow, standIns := [], harness := (true, "f76503200573a9ace24fabc76f9dd4d4aa1c0530312d2ea205b13730c496f1fb"), looks := true }, kinds := [], alts := [], laidByText := true, laidKinds := [.data, .data, .data, .data, .sentinel, .sentinel, .listed, .data, .pinned], laidTests := true, laidLooks := .later }
def GraphPartsCardSaid : Prop := Claim7.holds Tryz.pinned (.plain (OpenSpec.ofChange graphPartsSpec)) graphPartsCard

/-- THE TIED CARD OF 'tailwaterlaw24.GraphWays'. -/
def graphWaysCard : Claim7 := { stood := { row := graphWaysRow, standIns := [], harness := (true, "f76503200573a9ace24fabc76f9dd4d4aa1c0530312d2ea205b13730c496f1fb"), looks := true }, kinds := [], alts := [], laidByText := true, laidKinds := [.data, .data, .data, .data, .sentinel, .sentinel, .listed, .data, .pinned], laidTests := true, laidLooks := .later }
def GraphWaysCardSaid : Prop := Claim7.holds Tryz.pinned (.plain (OpenSpec.ofChange graphWaysSpec)) graphWaysCard

/-- THE TIED CARD OF 'tailwaterlaw24.GraphNames'. -/
def graphNamesCard : Claim7 := { stood := { row := graphNamesRow, standIns := [], harness := (true, "f76503200573a9ace24fabc76f9dd4d4aa1c0530312d2ea205b13730c496f1fb"), looks := true }, kinds := [], alts := [], laidByText := true, laidKinds := [.data, .data, .data, .data, .sentinel, .sentinel, .listed, .data, .pinned], laidTests := true, laidLooks := .later }
def GraphNamesCardSaid : Prop := Claim7.holds Tryz.pinned (.plain (OpenSpec.ofChange graphNamesSpec)) graphNamesCard

/-- THE TIED CARD OF 'tailwaterlaw24.GraphOrder'. -/
def graphOrderCard : Claim7 := { stood := { row := graphOrderRow, standIns := [], harness := (true, "f76503200573a9ace24fabc76f9dd4d4aa1c0530312d2ea205b13730c496f1fb"), looks := true }, kinds := [], alts := [], laidByText := true, laidKinds := [.data, .data, .data, .data, .sentinel, .sentinel, .listed, .data, .pinned], laidTests := true, laidLooks := .later }
def GraphOrderCardSaid : Prop := Claim7.holds Tryz.pinned (.plain (OpenSpec.ofChange graphOrderSpec)) graphOrderCard

/-- THE SECOND FORM's CARD OF 'tailwaterlaw09.ParserBlanks'. -/
def parserBlanksUptoCard : Claim7 := { stood := { row := parserBlanksUptoRow, standIns := [], harness := (true, "f76503200573a9ace24fabc76f9dd4d4aa1c0530312d2ea205b13730c496f1fb"), looks := true }, kinds := [], alts := [], laidByText := true, laidKinds := [.data, .data, .data, .data, .sentinel, .sentinel, .listed, .data, .pinned], laidTests := true, laidLooks := .later }
def ParserBlanksUptoCardSaid : Prop := Claim7.holds Tryz.pinned (.plain (OpenSpec.upto parserBlanksSpec)) parserBlanksUptoCard

/-- THE SECOND FORM's CARD OF 'tailwaterlaw09.ParserValid'. -/
def parserValidUptoCard : Claim7 := { stood := { row := parserValidUptoRow, standIns := [], harness := (true, "f76503200573a9ace24fabc76f9dd4d4aa1c0530312d2ea205b13730c496f1fb"), looks := true }, kinds := [], alts := [], laidByText := true, laidKinds := [.data, .data, .data, .data, .sentinel, .sentinel, .listed, .data, .pinned], laidTests := true, laidLooks := .later }
def ParserValidUptoCardSaid : Prop := Claim7.holds Tryz.pinned (.plain (OpenSpec.upto parserValidSpec)) parserValidUptoCard

/-- THE SECOND FORM's CARD OF 'tailwaterlaw09.ParserExact'. -/
def parserExactUptoCard : Claim7 := { stood := { row := parserExactUptoRow, standIns := [], harness := (true, "f76503200573a9ace24fabc76f9dd4d4aa1c0530312d2ea205b13730c496f1fb"), looks := true }, kinds := [], alts := [], laidByText := true, laidKinds := [.data, .data, .data, .data, .sentinel, .sentinel, .listed, .data, .pinned], laidTests := true, laidLooks := .later }
def ParserExactUptoCardSaid : Prop := Claim7.holds Tryz.pinned (.plain (OpenSpec.upto parserExactSpec)) parserExactUptoCard

/-- THE SECOND FORM's CARD OF 'tailwaterlaw09.ParserParts'. -/
def parserPartsUptoCard : Claim7 := { stood := { row := parserPartsUptoRow, standIns := [], harness := (true, "f76503200573a9ace24fabc76f9dd4d4aa1c0530312d2ea205b13730c496f1fb"), looks := true }, kinds := [], alts := [], laidByText := true, laidKinds := [.data, .data, .data, .data, .sentinel, .sentinel, .listed, .data, .pinned], laidTests := true, laidLooks := .later }
def ParserPartsUptoCardSaid : Prop := Claim7.holds Tryz.pinned (.plain (OpenSpec.upto parserPartsSpec)) parserPartsUptoCard

/-- THE SECOND FORM's CARD OF 'tailwaterlaw10.ChecksText'. -/
def checksTextUptoCard : Claim7 := { stood := { row := checksTextUptoRow, standIns := [], harness := (true, "f76503200573a9ace24fabc76f9dd4d4aa1c0530312d2ea205b13730c496f1fb"), looks := true }, kinds := [], alts := [], laidByText := true, laidKinds := [.data, .data, .data, .data, .sentinel, .sentinel, .listed, .data, .pinned], laidTests := true, laidLooks := .later }
def ChecksTextUptoCardSaid : Prop := Claim7.holds Tryz.pinned (.plain (OpenSpec.upto checksTextSpec)) checksTextUptoCard

/-- THE SECOND FORM's CARD OF 'tailwaterlaw11.PrinterRead'. -/
def printerReadUptoCard : Claim7 := { stood := { row := printerReadUptoRow, standIns := [], harness := (true, "f76503200573a9ace24fabc76f9dd4d4aa1c0530312d2ea205b13730c496f1fb"), looks := true }, kinds := [], alts := [], laidByText := true, laidKinds := [.data, .data, .data, .data, .sentinel, .sentinel, .listed, .data, .pinned], laidTests := true, laidLooks := .later }
def PrinterReadUptoCardSaid : Prop := Claim7.holds Tryz.pinned (.plain (OpenSpec.upto printerReadSpec)) printerReadUptoCard

/-- THE SECOND FORM's CARD OF 'tailwaterlaw10.ChecksCompiles'. -/
def checksCompilesUptoCard : Claim7 := { stood := { row := checksCompilesUptoRow, standIns := [], harness := (true, "f76503200573a9ace24fabc76f9dd4d4aa1c0530312d2ea205b13730c496f1fb"), looks := true }, kinds := [], alts := [], laidByText := true, laidKinds := [.data, .data, .data, .data, .sentinel, .sentinel, .listed, .data, .pinned], laidTests := true, laidLooks := .later }
def ChecksCompilesUptoCardSaid : Prop := Claim7.holds Tryz.pinned (.plain (OpenSpec.upto checksCompilesSpec)) checksCompilesUptoCard

/-- THE SECOND FORM's CARD OF 'tailwaterlaw10.ChecksConstant'. -/
def checksConstantUptoCard : Claim7 := { stood := { row := checksConstantUptoRow, standIns := [], harness := (true, "f76503200573a9ace24fabc76f9dd4d4aa1c0530312d2ea205b13730c496f1fb"), looks := true }, kinds := [], alts := [], laidByText := true, laidKinds := [.data, .data, .data, .data, .sentinel, .sentinel, .listed, .data, .pinned], laidTests := true, laidLooks := .later }
def ChecksConstantUptoCardSaid : Prop := Claim7.holds Tryz.pinned (.plain (OpenSpec.upto checksConstantSpec)) checksConstantUptoCard

/-- THE SECOND FORM's CARD OF 'tailwaterlaw24.GraphParts'. -/
def graphPartsUptoCard : Claim7 := { stood := { row := graphPartsUptoRow, standIns := [], harness := (true, "f76503200573a9ace24fabc76f9dd4d4aa1c0530312d2ea205b13730c496f1fb"), looks := true }, kinds := [], alts := [], laidByText := true, laidKinds := [.data, .data, .data, .data, .sentinel, .sentinel, .listed, .data, .pinned], laidTests := true, laidLooks := .later }
def GraphPartsUptoCardSaid : Prop := Claim7.holds Tryz.pinned (.plain (OpenSpec.upto graphPartsSpec)) graphPartsUptoCard

/-- THE SECOND FORM's CARD OF 'tailwaterlaw24.GraphWays'. -/
def graphWaysUptoCard : Claim7 := { stood := { row := graphWaysUptoRow, standIns := [], harness := (true, "f76503200573a9ace24fabc76f9dd4d4aa1c0530312d2ea205b13730c496f1fb"), looks := true }, kinds := [], alts := [], laidByText := true, laidKinds := [.data, .data, .data, .data, .sentinel, .sentinel, .listed, .data, .pinned], laidTests := true, laidLooks := .later }
def GraphWaysUptoCardSaid : Prop := Claim7.holds Tryz.pinned (.plain (OpenSpec.upto graphWaysSpec)) graphWaysUptoCard

/-- THE SECOND FORM's CARD OF 'tailwaterlaw24.GraphNames'. -/
def graphNamesUptoCard : Claim7 := { stood := { row := graphNamesUptoRow, standIns := [], harness := (true, "f76503200573a9ace24fabc76f9dd4d4aa1c0530312d2ea205b13730c496f1fb"), looks := true }, kinds := [], alts := [], laidByText := true, laidKinds := [.data, .data, .data, .data, .sentinel, .sentinel, .listed, .data, .pinned], laidTests := true, laidLooks := .later }
def GraphNamesUptoCardSaid : Prop := Claim7.holds Tryz.pinned (.plain (OpenSpec.upto graphNamesSpec)) graphNamesUptoCard

/-- THE SECOND FORM's CARD OF 'tailwaterlaw24.GraphOrder'. -/
def graphOrderUptoCard : Claim7 := { stood := { row := graphOrderUptoRow, standIns := [], harness := (true, "f76503200573a9ace24fabc76f9dd4d4aa1c0530312d2ea205b13730c496f1fb"), looks := true }, kinds := [], alts := [], laidByText := true, laidKinds := [.data, .data, .data, .data, .sentinel, .sentinel, .listed, .data, .pinned], laidTests := true, laidLooks := .later }
def GraphOrderUptoCardSaid : Prop := Claim7.holds Tryz.pinned (.plain (OpenSpec.upto graphOrderSpec)) graphOrderUptoCard
end Rows
end Go.Proofs.YtgpoaohglpecgaaGreatDoor
