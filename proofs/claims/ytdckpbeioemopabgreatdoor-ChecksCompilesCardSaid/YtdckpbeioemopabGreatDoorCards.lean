/-
  DERIVED. GIVEN WITH THE SEED: THE CARDS: each row of YtdckpbeioemopabGreatDoorRows.lean that lists a variable, with what it lists TIED to the program's text (the seventh form; the later family's looks); each row that meets fmt, with fmt's text TOLD by the authors' own Lean function (tested against real Go, not proved from fmt's source: count such statements apart). THE CARD IS WHAT COUNTS. Prove the row's statement (the work); the ties are given (YtdckpbeioemopabGreatDoorTie.lean); close each card by the builder's one call (the guide's Derived/Test/ToyasCard.lean, 'card_holds'). Laid BY PROGRAM, IN A SANDBOX (cutbox-door.mjs). By AI agents, Wed Nov 11 2026. No macro, syntax, notation, axiom, sorry.
-/
import Derived.Test.YtdckpbeioemopabGreatDoorRows
import GoSem.ClaimSeven
namespace Go.Proofs.YtdckpbeioemopabGreatDoor
namespace Rows

/-- THE TIED CARD OF 'tailwaterlaw11.PrinterRead'. -/
def printerReadCard : Claim7 := { stood := { row := printerReadRow, standIns := [], harness := (true, "2048c608f1422728601a0fb6d8b8702b073d659cd2b2d5a2d579013a5f7b52a3"), looks := true }, kinds := [], alts := [], laidByText := true, laidKinds := [.data, .data, .data, .data, .sentinel, .sentinel, .listed, .data, .pinned], laidTests := true, laidLooks := .later }
def PrinterReadCardSaid : Prop := Claim7.holds Tryz.pinned (.plain (OpenSpec.ofChange printerReadSpec)) printerReadCard

/-- THE TIED CARD OF 'tailwaterlaw10.ChecksConstant'. -/
def checksConstantCard : Claim7 := { stood := { row := checksConstantRow, standIns := [], harness := (true, "2048c608f1422728601a0fb6d8b8702b073d659cd2b2d5a2d579013a5f7b52a3"), looks := true }, kinds := [], alts := [], laidByText := true, laidKinds := [.data, .data, .data, .data, .sentinel, .sentinel, .listed, .data, .pinned], laidTests := true, laidLooks := .later }
def ChecksConstantCardSaid : Prop := Claim7.holds Tryz.pinned (.plain (OpenSpec.ofChange checksConstantSpec)) checksConstantCard

/-- THE TIED CARD OF 'tailwaterlaw10.ChecksCompiles'. -/
def checksCompilesCard : Claim7 := { stood := { row := checksCompilesRow, standIns := [], harness := (true, "2048c608f1422728601a0fb6d8b8702b073d659cd2b2d5a2d579013a5f7b52a3"), looks := true }, kinds := [], alts := [], laidByText := true, laidKinds := [.data, .data, .data, .data, .sentinel, .sentinel, .listed, .data, .pinned], laidTests := true, laidLooks := .later }
def ChecksCompilesCardSaid : Prop := Claim7.holds Tryz.pinned (.plain (OpenSpec.ofChange checksCompilesSpec)) checksCompilesCard

/-- THE TIED CARD OF 'tailwaterlaw05.ExprsBrackets'. -/
def exprsBracketsCard : Claim7 := { stood := { row := exprsBracketsRow, standIns := [], harness := (true, "2048c608f1422728601a0fb6d8b8702b073d659cd2b2d5a2d579013a5f7b52a3"), looks := true }, kinds := [], alts := [], laidByText := true, laidKinds := [.data, .data, .data, .data, .sentinel, .sentinel, .listed, .data, .pinned], laidTests := true, laidLooks := .later }
def ExprsBracketsCardSaid : Prop := Claim7.holds Tryz.pinned (.plain (OpenSpec.ofChange exprsBracketsSpec)) exprsBracketsCard

/-- THE SECOND FORM's CARD OF 'tailwaterlaw11.PrinterRead'. -/
def printerReadUptoCard : Claim7 := { stood := { row := printerReadUptoRow, standIns := [], harness := (true, "2048c608f1422728601a0fb6d8b8702b073d659cd2b2d5a2d579013a5f7b52a3"), looks := true }, kinds := [], alts := [], laidByText := true, laidKinds := [.data, .data, .data, .data, .sentinel, .sentinel, .listed, .data, .pinned], laidTests := true, laidLooks := .later }
def PrinterReadUptoCardSaid : Prop := Claim7.holds Tryz.pinned (.plain (OpenSpec.upto printerReadSpec)) printerReadUptoCard

/-- THE SECOND FORM's CARD OF 'tailwaterlaw10.ChecksConstant'. -/
def checksConstantUptoCard : Claim7 := { stood := { row := checksConstantUptoRow, standIns := [], harness := (true, "2048c608f1422728601a0fb6d8b8702b073d659cd2b2d5a2d579013a5f7b52a3"), looks := true }, kinds := [], alts := [], laidByText := true, laidKinds := [.data, .data, .data, .data, .sentinel, .sentinel, .listed, .data, .pinned], laidTests := true, laidLooks := .later }
def ChecksConstantUptoCardSaid : Prop := Claim7.holds Tryz.pinned (.plain (OpenSpec.upto checksConstantSpec)) checksConstantUptoCard

/-- THE SECOND FORM's CARD OF 'tailwaterlaw10.ChecksCompiles'. -/
def checksCompilesUptoCard : Claim7 := { stood := { row := checksCompilesUptoRow, standIns := [], harness := (true, "2048c608f1422728601a0fb6d8b8702b073d659cd2b2d5a2d579013a5f7b52a3"), looks := true }, kinds := [], alts := [], laidByText := true, laidKinds := [.data, .data, .data, .data, .sentinel, .sentinel, .listed, .data, .pinned], laidTests := true, laidLooks := .later }
def ChecksCompilesUptoCardSaid : Prop := Claim7.holds Tryz.pinned (.plain (OpenSpec.upto checksCompilesSpec)) checksCompilesUptoCard

/-- THE SECOND FORM's CARD OF 'tailwaterlaw05.ExprsBrackets'. -/
def exprsBracketsUptoCard : Claim7 := { stood := { row := exprsBracketsUptoRow, standIns := [], harness := (true, "2048c608f1422728601a0fb6d8b8702b073d659cd2b2d5a2d579013a5f7b52a3"), looks := true }, kinds := [], alts := [], laidByText := true, laidKinds := [.data, .data, .data, .data, .sentinel, .sentinel, .listed, .data, .pinned], laidTests := true, laidLooks := .later }
def ExprsBracketsUptoCardSaid : Prop := Claim7.holds Tryz.pinned (.plain (OpenSpec.upto exprsBracketsSpec)) exprsBracketsUptoCard
end Rows
end Go.Proofs.YtdckpbeioemopabGreatDoor
