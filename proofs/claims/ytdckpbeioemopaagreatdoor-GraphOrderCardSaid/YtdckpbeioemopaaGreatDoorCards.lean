/-
  DERIVED. GIVEN WITH THE SEED: THE CARDS: each row of YtdckpbeioemopaaGreatDoorRows.lean that lists a variable, with what it lists TIED to the program's text (the seventh form; the later family's looks); each row that meets fmt, with fmt's text TOLD by the authors' own Lean function (tested against real Go, not proved from fmt's source: count such statements apart). THE CARD IS WHAT COUNTS. Prove the row's statement (the work); the ties are given (YtdckpbeioemopaaGreatDoorTie.lean); close each card by the builder's one call (the guide's Derived/Test/ToyasCard.lean, 'card_holds'). Laid BY PROGRAM, IN A SANDBOX (cutbox-door.mjs). By AI agents, Wed Nov 11 2026. No macro, syntax, notation, axiom, sorry.
-/
import Derived.Test.YtdckpbeioemopaaGreatDoorRows
import GoSem.ClaimSeven
namespace Go.Proofs.YtdckpbeioemopaaGreatDoor
namespace Rows

/-- THE TIED CARD OF 'tailwaterlaw24.GraphParts'. -/
def graphPartsCard : Claim7 := { stood := { row := graphPartsRow, standIns := [], harness := (true, "58649b0fb943747131ec1e95a053c9dc9cf1b4f831cd86d1bff2aef3e913d1cf"), looks := true }, kinds := [], alts := [], laidByText := true, laidKinds := [.data, .data, .data, .data, .sentinel, .sentinel, .listed, .data, .pinned], laidTests := true, laidLooks := .later }
def GraphPartsCardSaid : Prop := Claim7.holds Tryz.pinned (.plain (OpenSpec.ofChange graphPartsSpec)) graphPartsCard

/-- THE TIED CARD OF 'tailwaterlaw24.GraphWays'. -/
def graphWaysCard : Claim7 := { stood := { row := graphWaysRow, standIns := [], harness := (true, "58649b0fb943747131ec1e95a053c9dc9cf1b4f831cd86d1bff2aef3e913d1cf"), looks := true }, kinds := [], alts := [], laidByText := true, laidKinds := [.data, .data, .data, .data, .sentinel, .sentinel, .listed, .data, .pinned], laidTests := true, laidLooks := .later }
def GraphWaysCardSaid : Prop := Claim7.holds Tryz.pinned (.plain (OpenSpec.ofChange graphWaysSpec)) graphWaysCard

/-- THE TIED CARD OF 'tailwaterlaw24.GraphNames'. -/
def graphNamesCard : Claim7 := { stood := { row := graphNamesRow, standIns := [], harness := (true, "58649b0fb943747131ec1e95a053c9dc9cf1b4f831cd86d1bff2aef3e913d1cf"), looks := true }, kinds := [], alts := [], laidByText := true, laidKinds := [.data, .data, .data, .data, .sentinel, .sentinel, .listed, .data, .pinned], laidTests := true, laidLooks := .later }
def GraphNamesCardSaid : Prop := Claim7.holds Tryz.pinned (.plain (OpenSpec.ofChange graphNamesSpec)) graphNamesCard

/-- THE TIED CARD OF 'tailwaterlaw24.GraphOrder'. -/
def graphOrderCard : Claim7 := { stood := { row := graphOrderRow, standIns := [], harness := (true, "58649b0fb943747131ec1e95a053c9dc9cf1b4f831cd86d1bff2aef3e913d1cf"), looks := true }, kinds := [], alts := [], laidByText := true, laidKinds := [.data, .data, .data, .data, .sentinel, .sentinel, .listed, .data, .pinned], laidTests := true, laidLooks := .later }
def GraphOrderCardSaid : Prop := Claim7.holds Tryz.pinned (.plain (OpenSpec.ofChange graphOrderSpec)) graphOrderCard

/-- THE TIED CARD OF 'tailwaterlaw24.GraphRoom'. -/
def graphRoomCard : Claim7 := { stood := { row := graphRoomRow, standIns := [], harness := (true, "58649b0fb943747131ec1e95a053c9dc9cf1b4f831cd86d1bff2aef3e913d1cf"), looks := true }, kinds := [], alts := [], laidByText := true, laidKinds := [.data, .data, .data, .data, .sentinel, .sentinel, .listed, .data, .pinned], laidTests := true, laidLooks := .later }
def GraphRoomCardSaid : Prop := Claim7.holds Tryz.pinned (.plain (OpenSpec.ofChange graphRoomSpec)) graphRoomCard

/-- THE SECOND FORM's CARD OF 'tailwaterlaw24.GraphParts'. -/
def graphPartsUptoCard : Claim7 := { stood := { row := graphPartsUptoRow, standIns := [], harness := (true, "58649b0fb943747131ec1e95a053c9dc9cf1b4f831cd86d1bff2aef3e913d1cf"), looks := true }, kinds := [], alts := [], laidByText := true, laidKinds := [.data, .data, .data, .data, .sentinel, .sentinel, .listed, .data, .pinned], laidTests := true, laidLooks := .later }
def GraphPartsUptoCardSaid : Prop := Claim7.holds Tryz.pinned (.plain (OpenSpec.upto graphPartsSpec)) graphPartsUptoCard

/-- THE SECOND FORM's CARD OF 'tailwaterlaw24.GraphWays'. -/
def graphWaysUptoCard : Claim7 := { stood := { row := graphWaysUptoRow, standIns := [], harness := (true, "58649b0fb943747131ec1e95a053c9dc9cf1b4f831cd86d1bff2aef3e913d1cf"), looks := true }, kinds := [], alts := [], laidByText := true, laidKinds := [.data, .data, .data, .data, .sentinel, .sentinel, .listed, .data, .pinned], laidTests := true, laidLooks := .later }
def GraphWaysUptoCardSaid : Prop := Claim7.holds Tryz.pinned (.plain (OpenSpec.upto graphWaysSpec)) graphWaysUptoCard

/-- THE SECOND FORM's CARD OF 'tailwaterlaw24.GraphNames'. -/
def graphNamesUptoCard : Claim7 := { stood := { row := graphNamesUptoRow, standIns := [], harness := (true, "58649b0fb943747131ec1e95a053c9dc9cf1b4f831cd86d1bff2aef3e913d1cf"), looks := true }, kinds := [], alts := [], laidByText := true, laidKinds := [.data, .data, .data, .data, .sentinel, .sentinel, .listed, .data, .pinned], laidTests := true, laidLooks := .later }
def GraphNamesUptoCardSaid : Prop := Claim7.holds Tryz.pinned (.plain (OpenSpec.upto graphNamesSpec)) graphNamesUptoCard

/-- THE SECOND FORM's CARD OF 'tailwaterlaw24.GraphOrder'. -/
def graphOrderUptoCard : Claim7 := { stood := { row := graphOrderUptoRow, standIns := [], harness := (true, "58649b0fb943747131ec1e95a053c9dc9cf1b4f831cd86d1bff2aef3e913d1cf"), looks := true }, kinds := [], alts := [], laidByText := true, laidKinds := [.data, .data, .data, .data, .sentinel, .sentinel, .listed, .data, .pinned], laidTests := true, laidLooks := .later }
def GraphOrderUptoCardSaid : Prop := Claim7.holds Tryz.pinned (.plain (OpenSpec.upto graphOrderSpec)) graphOrderUptoCard

/-- THE SECOND FORM's CARD OF 'tailwaterlaw24.GraphRoom'. -/
def graphRoomUptoCard : Claim7 := { stood := { row := graphRoomUptoRow, standIns := [], harness := (true, "58649b0fb943747131ec1e95a053c9dc9cf1b4f831cd86d1bff2aef3e913d1cf"), looks := true }, kinds := [], alts := [], laidByText := true, laidKinds := [.data, .data, .data, .data, .sentinel, .sentinel, .listed, .data, .pinned], laidTests := true, laidLooks := .later }
def GraphRoomUptoCardSaid : Prop := Claim7.holds Tryz.pinned (.plain (OpenSpec.upto graphRoomSpec)) graphRoomUptoCard
end Rows
end Go.Proofs.YtdckpbeioemopaaGreatDoor
