/-
  DERIVED. GIVEN WITH THE SEED: THE CARDS: each row of YtfniiapkghpihaaGreatDoorRows.lean that lists a variable, with what it lists TIED to the program's text (the seventh form; the later family's looks); each row that meets fmt, with fmt's text TOLD by the authors' own Lean function (tested against real Go, not proved from fmt's source: count such statements apart). THE CARD IS WHAT COUNTS. Prove the row's statement (the work); the ties are given (YtfniiapkghpihaaGreatDoorTie.lean); close each card by the builder's one call (the guide's Derived/Test/ToyasCard.lean, 'card_holds'). Laid BY PROGRAM, IN A SANDBOX (cutbox-door.mjs). By AI agents, Wed Nov 11 2026. No macro, syntax, notation, axiom, sorry.
-/
import Derived.Test.YtfniiapkghpihaaGreatDoorRows
import GoSem.ClaimSeven
namespace Go.Proofs.YtfniiapkghpihaaGreatDoor
namespace Rows

/-- THE TIED CARD OF 'tailwaterlaw22.PlanNames'. -/
def planNamesCard : Claim7 := { stood := { row := planNamesRow, standIns := [], harness := (true, "2435e0dde96bc3f07a683ef3aec4a19c22d2309c90c821ae8ad3dd3b873998bf"), looks := true }, kinds := [], alts := [], laidByText := true, laidKinds := [.data, .data, .data, .data, .sentinel, .sentinel, .listed, .data, .pinned], laidTests := true, laidLooks := .later }
def PlanNamesCardSaid : Prop := Claim7.holds Tryz.pinned (.plain (OpenSpec.ofChange planNamesSpec)) planNamesCard

/-- THE TIED CARD OF 'tailwaterlaw22.PlanSteps'. -/
def planStepsCard : Claim7 := { stood := { row := planStepsRow, standIns := [], harness := (true, "2435e0dde96bc3f07a683ef3aec4a19c22d2309c90c821ae8ad3dd3b873998bf"), looks := true }, kinds := [], alts := [], laidByText := true, laidKinds := [.data, .data, .data, .data, .sentinel, .sentinel, .listed, .data, .pinned], laidTests := true, laidLooks := .later }
def PlanStepsCardSaid : Prop := Claim7.holds Tryz.pinned (.plain (OpenSpec.ofChange planStepsSpec)) planStepsCard

/-- THE TIED CARD OF 'tailwaterlaw22.PlanKinds'. -/
def planKindsCard : Claim7 := { stood := { row := planKindsRow, standIns := [], harness := (true, "2435e0dde96bc3f07a683ef3aec4a19c22d2309c90c821ae8ad3dd3b873998bf"), looks := true }, kinds := [], alts := [], laidByText := true, laidKinds := [.data, .data, .data, .data, .sentinel, .sentinel, .listed, .data, .pinned], laidTests := true, laidLooks := .later }
def PlanKindsCardSaid : Prop := Claim7.holds Tryz.pinned (.plain (OpenSpec.ofChange planKindsSpec)) planKindsCard

/-- THE TIED CARD OF 'tailwaterlaw22.PlanSizes'. -/
def planSizesCard : Claim7 := { stood := { row := planSizesRow, standIns := [], harness := (true, "2435e0dde96bc3f07a683ef3aec4a19c22d2309c90c821ae8ad3dd3b873998bf"), looks := true }, kinds := [], alts := [], laidByText := true, laidKinds := [.data, .data, .data, .data, .sentinel, .sentinel, .listed, .data, .pinned], laidTests := true, laidLooks := .later }
def PlanSizesCardSaid : Prop := Claim7.holds Tryz.pinned (.plain (OpenSpec.ofChange planSizesSpec)) planSizesCard

/-- THE TIED CARD OF 'tailwaterlaw22.PlanOne'. -/
def planOneCard : Claim7 := { stood := { row := planOneRow, standIns := [], harness := (true, "2435e0dde96bc3f07a683ef3aec4a19c22d2309c90c821ae8ad3dd3b873998bf"), looks := true }, kinds := [], alts := [], laidByText := true, laidKinds := [.data, .data, .data, .data, .sentinel, .sentinel, .listed, .data, .pinned], laidTests := true, laidLooks := .later }
def PlanOneCardSaid : Prop := Claim7.holds Tryz.pinned (.plain (OpenSpec.ofChange planOneSpec)) planOneCard

/-- THE TIED CARD OF 'tailwaterlaw09.ParserNames'. -/
def parserNamesCard : Claim7 := { stood := { row := parserNamesRow, standIns := [], harness := (true, "2435e0dde96bc3f07a683ef3aec4a19c22d2309c90c821ae8ad3dd3b873998bf"), looks := true }, kinds := [], alts := [], laidByText := true, laidKinds := [.data, .data, .data, .data, .sentinel, .sentinel, .listed, .data, .pinned], laidTests := true, laidLooks := .later }
def ParserNamesCardSaid : Prop := Claim7.holds Tryz.pinned (.plain (OpenSpec.ofChange parserNamesSpec)) parserNamesCard

/-- THE TIED CARD OF 'tailwaterlaw10.ChecksTyped'. -/
def checksTypedCard : Claim7 := { stood := { row := checksTypedRow, standIns := [], harness := (true, "2435e0dde96bc3f07a683ef3aec4a19c22d2309c90c821ae8ad3dd3b873998bf"), looks := true }, kinds := [], alts := [], laidByText := true, laidKinds := [.data, .data, .data, .data, .sentinel, .sentinel, .listed, .data, .pinned], laidTests := true, laidLooks := .later }
def ChecksTypedCardSaid : Prop := Claim7.holds Tryz.pinned (.plain (OpenSpec.ofChange checksTypedSpec)) checksTypedCard

/-- THE TIED CARD OF 'tailwaterlaw10.ChecksBare'. -/
def checksBareCard : Claim7 := { stood := { row := checksBareRow, standIns := [], harness := (true, "2435e0dde96bc3f07a683ef3aec4a19c22d2309c90c821ae8ad3dd3b873998bf"), looks := true }, kinds := [], alts := [], laidByText := true, laidKinds := [.data, .data, .data, .data, .sentinel, .sentinel, .listed, .data, .pinned], laidTests := true, laidLooks := .later }
def ChecksBareCardSaid : Prop := Claim7.holds Tryz.pinned (.plain (OpenSpec.ofChange checksBareSpec)) checksBareCard

/-- THE TIED CARD OF 'tailwaterlaw10.ChecksNames'. -/
def checksNamesCard : Claim7 := { stood := { row := checksNamesRow, standIns := [], harness := (true, "2435e0dde96bc3f07a683ef3aec4a19c22d2309c90c821ae8ad3dd3b873998bf"), looks := true }, kinds := [], alts := [], laidByText := true, laidKinds := [.data, .data, .data, .data, .sentinel, .sentinel, .listed, .data, .pinned], laidTests := true, laidLooks := .later }
def ChecksNamesCardSaid : Prop := Claim7.holds Tryz.pinned (.plain (OpenSpec.ofChange checksNamesSpec)) checksNamesCard

/-- THE TIED CARD OF 'tailwaterlaw11.PrinterOnce'. -/
def printerOnceCard : Claim7 := { stood := { row := printerOnceRow, standIns := [], harness := (true, "2435e0dde96bc3f07a683ef3aec4a19c22d2309c90c821ae8ad3dd3b873998bf"), looks := true }, kinds := [], alts := [], laidByText := true, laidKinds := [.data, .data, .data, .data, .sentinel, .sentinel, .listed, .data, .pinned], laidTests := true, laidLooks := .later }
def PrinterOnceCardSaid : Prop := Claim7.holds Tryz.pinned (.plain (OpenSpec.ofChange printerOnceSpec)) printerOnceCard

/-- THE SECOND FORM's CARD OF 'tailwaterlaw22.PlanNames'. -/
def planNamesUptoCard : Claim7 := { stood := { row := planNamesUptoRow, standIns := [], harness := (true, "2435e0dde96bc3f07a683ef3aec4a19c22d2309c90c821ae8ad3dd3b873998bf"), looks := true }, kinds := [], alts := [], laidByText := true, laidKinds := [.data, .data, .data, .data, .sentinel, .sentinel, .listed, .data, .pinned], laidTests := true, laidLooks := .later }
def PlanNamesUptoCardSaid : Prop := Claim7.holds Tryz.pinned (.plain (OpenSpec.upto planNamesSpec)) planNamesUptoCard

/-- THE SECOND FORM's CARD OF 'tailwaterlaw22.PlanSteps'. -/
def planStepsUptoCard : Claim7 := { stood := { row := planStepsUptoRow, standIns := [], harness := (true, "2435e0dde96bc3f07a683ef3aec4a19c22d2309c90c821ae8ad3dd3b873998bf"), looks := true }, kinds := [], alts := [], laidByText := true, laidKinds := [.data, .data, .data, .data, .sentinel, .sentinel, .listed, .data, .pinned], laidTests := true, laidLooks := .later }
def PlanStepsUptoCardSaid : Prop := Claim7.holds Tryz.pinned (.plain (OpenSpec.upto planStepsSpec)) planStepsUptoCard

/-- THE SECOND FORM's CARD OF 'tailwaterlaw22.PlanKinds'. -/
def planKindsUptoCard : Claim7 := { stood := { row := planKindsUptoRow, standIns := [], harness := (true, "2435e0dde96bc3f07a683ef3aec4a19c22d2309c90c821ae8ad3dd3b873998bf"), looks := true }, kinds := [], alts := [], laidByText := true, laidKinds := [.data, .data, .data, .data, .sentinel, .sentinel, .listed, .data, .pinned], laidTests := true, laidLooks := .later }
def PlanKindsUptoCardSaid : Prop := Claim7.holds Tryz.pinned (.plain (OpenSpec.upto planKindsSpec)) planKindsUptoCard

/-- THE SECOND FORM's CARD OF 'tailwaterlaw22.PlanSizes'. -/
def planSizesUptoCard : Claim7 := { stood := { row := planSizesUptoRow, standIns := [], harness := (true, "2435e0dde96bc3f07a683ef3aec4a19c22d2309c90c821ae8ad3dd3b873998bf"), looks := true }, kinds := [], alts := [], laidByText := true, laidKinds := [.data, .data, .data, .data, .sentinel, .sentinel, .listed, .data, .pinned], laidTests := true, laidLooks := .later }
def PlanSizesUptoCardSaid : Prop := Claim7.holds Tryz.pinned (.plain (OpenSpec.upto planSizesSpec)) planSizesUptoCard

/-- THE SECOND FORM's CARD OF 'tailwaterlaw22.PlanOne'. -/
def planOneUptoCard : Claim7 := { stood := { row := planOneUptoRow, standIns := [], harness := (true, "2435e0dde96bc3f07a683ef3aec4a19c22d2309c90c821ae8ad3dd3b873998bf"), looks := true }, kinds := [], alts := [], laidByText := true, laidKinds := [.data, .data, .data, .data, .sentinel, .sentinel, .listed, .data, .pinned], laidTests := true, laidLooks := .later }
def PlanOneUptoCardSaid : Prop := Claim7.holds Tryz.pinned (.plain (OpenSpec.upto planOneSpec)) planOneUptoCard

/-- THE SECOND FORM's CARD OF 'tailwaterlaw09.ParserNames'. -/
def parserNamesUptoCard : Claim7 := { stood := { row := parserNamesUptoRow, standIns := [], harness := (true, "2435e0dde96bc3f07a683ef3aec4a19c22d2309c90c821ae8ad3dd3b873998bf"), looks := true }, kinds := [], alts := [], laidByText := true, laidKinds := [.data, .data, .data, .data, .sentinel, .sentinel, .listed, .data, .pinned], laidTests := true, laidLooks := .later }
def ParserNamesUptoCardSaid : Prop := Claim7.holds Tryz.pinned (.plain (OpenSpec.upto parserNamesSpec)) parserNamesUptoCard

/-- THE SECOND FORM's CARD OF 'tailwaterlaw10.ChecksTyped'. -/
def checksTypedUptoCard : Claim7 := { stood := { row := checksTypedUptoRow, standIns := [], harness := (true, "2435e0dde96bc3f07a683ef3aec4a19c22d2309c90c821ae8ad3dd3b873998bf"), looks := true }, kinds := [], alts := [], laidByText := true, laidKinds := [.data, .data, .data, .data, .sentinel, .sentinel, .listed, .data, .pinned], laidTests := true, laidLooks := .later }
def ChecksTypedUptoCardSaid : Prop := Claim7.holds Tryz.pinned (.plain (OpenSpec.upto checksTypedSpec)) checksTypedUptoCard

/-- THE SECOND FORM's CARD OF 'tailwaterlaw10.ChecksBare'. -/
def checksBareUptoCard : Claim7 := { stood := { row := checksBareUptoRow, standIns := [], harness := (true, "2435e0dde96bc3f07a683ef3aec4a19c22d2309c90c821ae8ad3dd3b873998bf"), looks := true }, kinds := [], alts := [], laidByText := true, laidKinds := [.data, .data, .data, .data, .sentinel, .sentinel, .listed, .data, .pinned], laidTests := true, laidLooks := .later }
def ChecksBareUptoCardSaid : Prop := Claim7.holds Tryz.pinned (.plain (OpenSpec.upto checksBareSpec)) checksBareUptoCard

/-- THE SECOND FORM's CARD OF 'tailwaterlaw10.ChecksNames'. -/
def checksNamesUptoCard : Claim7 := { stood := { row := checksNamesUptoRow, standIns := [], harness := (true, "2435e0dde96bc3f07a683ef3aec4a19c22d2309c90c821ae8ad3dd3b873998bf"), looks := true }, kinds := [], alts := [], laidByText := true, laidKinds := [.data, .data, .data, .data, .sentinel, .sentinel, .listed, .data, .pinned], laidTests := true, laidLooks := .later }
def ChecksNamesUptoCardSaid : Prop := Claim7.holds Tryz.pinned (.plain (OpenSpec.upto checksNamesSpec)) checksNamesUptoCard

/-- THE SECOND FORM's CARD OF 'tailwaterlaw11.PrinterOnce'. -/
def printerOnceUptoCard : Claim7 := { stood := { row := printerOnceUptoRow, standIns := [], harness := (true, "2435e0dde96bc3f07a683ef3aec4a19c22d2309c90c821ae8ad3dd3b873998bf"), looks := true }, kinds := [], alts := [], laidByText := true, laidKinds := [.data, .data, .data, .data, .sentinel, .sentinel, .listed, .data, .pinned], laidTests := true, laidLooks := .later }
def PrinterOnceUptoCardSaid : Prop := Claim7.holds Tryz.pinned (.plain (OpenSpec.upto printerOnceSpec)) printerOnceUptoCard
end Rows
end Go.Proofs.YtfniiapkghpihaaGreatDoor
