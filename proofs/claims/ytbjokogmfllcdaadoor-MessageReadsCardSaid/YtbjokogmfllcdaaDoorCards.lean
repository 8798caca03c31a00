/-
  DERIVED. GIVEN WITH THE SEED: THE CARDS: each row of YtbjokogmfllcdaaDoorRows.lean that lists a variable, with what it lists TIED to the program's text (the seventh form; the later family's looks); each row that meets fmt, with fmt's text TOLD by the authors' own Lean function (tested against real Go, not proved from fmt's source: count such statements apart). THE CARD IS WHAT COUNTS. Prove the row's statement (the work); the ties are given (YtbjokogmfllcdaaDoorTie.lean); close each card by the builder's one call (the guide's Derived/Test/ToyasCard.lean, 'card_holds'). Laid BY PROGRAM, IN A SANDBOX (cutbox-door.mjs). By AI agents, Wed Nov 11 2026. No macro, syntax, notation, axiom, sorry.
-/
import Derived.Test.YtbjokogmfllcdaaDoorRows
import GoSem.ClaimSeven
namespace Go.Proofs.YtbjokogmfllcdaaDoor
namespace Rows

/-- THE TIED CARD OF 'tailwaterlaw25.MessageTells'. -/
def messageTellsCard : Claim7 := { stood := { row := messageTellsRow, standIns := [], harness := (true, "224877f098df230a1d8d0550119f44dde970ece9a31b1bd12f8fb3d53fbf7f70"), looks := true }, kinds := [], alts := [], laidByText := true, laidKinds := [.data, .data, .data], laidTests := true, laidLooks := .later }
def MessageTellsCardSaid : Prop := Claim7.holds Tryd.pinned (.plain (OpenSpec.ofChange messageTellsSpec)) messageTellsCard

/-- THE TIED CARD OF 'tailwaterlaw25.MessageReads'. -/
def messageReadsCard : Claim7 := { stood := { row := messageReadsRow, standIns := [], harness := (true, "224877f098df230a1d8d0550119f44dde970ece9a31b1bd12f8fb3d53fbf7f70"), looks := true }, kinds := [], alts := [], laidByText := true, laidKinds := [.data, .data, .data, .data, .sentinel, .sentinel, .pinned], laidTests := true, laidLooks := .later }
def MessageReadsCardSaid : Prop := Claim7.holds Tryd.pinned (.plain (OpenSpec.ofChange messageReadsSpec)) messageReadsCard

/-- THE TIED CARD OF 'tailwaterlaw25.MessageOnce'. -/
def messageOnceCard : Claim7 := { stood := { row := messageOnceRow, standIns := [], harness := (true, "224877f098df230a1d8d0550119f44dde970ece9a31b1bd12f8fb3d53fbf7f70"), looks := true }, kinds := [], alts := [], laidByText := true, laidKinds := [.data, .data, .data, .data, .sentinel, .sentinel, .pinned], laidTests := true, laidLooks := .later }
def MessageOnceCardSaid : Prop := Claim7.holds Tryd.pinned (.plain (OpenSpec.ofChange messageOnceSpec)) messageOnceCard

/-- THE TIED CARD OF 'tailwaterlaw25.MessageBack'. -/
def messageBackCard : Claim7 := { stood := { row := messageBackRow, standIns := [], harness := (true, "224877f098df230a1d8d0550119f44dde970ece9a31b1bd12f8fb3d53fbf7f70"), looks := true }, kinds := [], alts := [], laidByText := true, laidKinds := [.data, .data, .data, .data, .sentinel, .sentinel, .pinned], laidTests := true, laidLooks := .later }
def MessageBackCardSaid : Prop := Claim7.holds Tryd.pinned (.plain (OpenSpec.ofChange messageBackSpec)) messageBackCard

/-- THE TIED CARD OF 'tailwaterlaw25.MessageSpare'. -/
def messageSpareCard : Claim7 := { stood := { row := messageSpareRow, standIns := [], harness := (true, "224877f098df230a1d8d0550119f44dde970ece9a31b1bd12f8fb3d53fbf7f70"), looks := true }, kinds := [], alts := [], laidByText := true, laidKinds := [.data, .data, .data, .data, .sentinel, .sentinel, .pinned], laidTests := true, laidLooks := .later }
def MessageSpareCardSaid : Prop := Claim7.holds Tryd.pinned (.plain (OpenSpec.ofChange messageSpareSpec)) messageSpareCard

/-- THE TIED CARD OF 'tailwaterlaw25.MessageNames'. -/
def messageNamesCard : Claim7 := { stood := { row := messageNamesRow, standIns := [], harness := (true, "224877f098df230a1d8d0550119f44dde970ece9a31b1bd12f8fb3d53fbf7f70"), looks := true }, kinds := [], alts := [], laidByText := true, laidKinds := [.data, .data, .data, .data, .sentinel, .sentinel, .pinned], laidTests := true, laidLooks := .later }
def MessageNamesCardSaid : Prop := Claim7.holds Tryd.pinned (.plain (OpenSpec.ofChange messageNamesSpec)) messageNamesCard

/-- THE TIED CARD OF 'tailwaterlaw25.MessageEvents'. -/
def messageEventsCard : Claim7 := { stood := { row := messageEventsRow, standIns := [], harness := (true, "224877f098df230a1d8d0550119f44dde970ece9a31b1bd12f8fb3d53fbf7f70"), looks := true }, kinds := [], alts := [], laidByText := true, laidKinds := [.data, .data, .data, .data, .sentinel, .sentinel, .pinned], laidTests := true, laidLooks := .later }
def MessageEventsCardSaid : Prop := Claim7.holds Tryd.pinned (.plain (OpenSpec.ofChange messageEventsSpec)) messageEventsCard

/-- THE SECOND FORM's CARD OF 'tailwaterlaw25.MessageTells'. -/
def messageTellsUptoCard : Claim7 := { stood := { row := messageTellsUptoRow, standIns := [], harness := (true, "224877f098df230a1d8d0550119f44dde970ece9a31b1bd12f8fb3d53fbf7f70"), looks := true }, kinds := [], alts := [], laidByText := true, laidKinds := [.data, .data, .data], laidTests := true, laidLooks := .later }
def MessageTellsUptoCardSaid : Prop := Claim7.holds Tryd.pinned (.plain (OpenSpec.upto messageTellsSpec)) messageTellsUptoCard

/-- THE SECOND FORM's CARD OF 'tailwaterlaw25.MessageReads'. -/
def messageReadsUptoCard : Claim7 := { stood := { row := messageReadsUptoRow, standIns := [], harness := (true, "224877f098df230a1d8d0550119f44dde970ece9a31b1bd12f8fb3d53fbf7f70"), looks := true }, kinds := [], alts := [], laidByText := true, laidKinds := [.data, .data, .data, .data, .sentinel, .sentinel, .pinned], laidTests := true, laidLooks := .later }
def MessageReadsUptoCardSaid : Prop := Claim7.holds Tryd.pinned (.plain (OpenSpec.upto messageReadsSpec)) messageReadsUptoCard

/-- THE SECOND FORM's CARD OF 'tailwaterlaw25.MessageOnce'. -/
def messageOnceUptoCard : Claim7 := { stood := { row := messageOnceUptoRow, standIns := [], harness := (true, "224877f098df230a1d8d0550119f44dde970ece9a31b1bd12f8fb3d53fbf7f70"), looks := true }, kinds := [], alts := [], laidByText := true, laidKinds := [.data, .data, .data, .data, .sentinel, .sentinel, .pinned], laidTests := true, laidLooks := .later }
def MessageOnceUptoCardSaid : Prop := Claim7.holds Tryd.pinned (.plain (OpenSpec.upto messageOnceSpec)) messageOnceUptoCard

/-- THE SECOND FORM's CARD OF 'tailwaterlaw25.MessageBack'. -/
def messageBackUptoCard : Claim7 := { stood := { row := messageBackUptoRow, standIns := [], harness := (true, "224877f098df230a1d8d0550119f44dde970ece9a31b1bd12f8fb3d53fbf7f70"), looks := true }, kinds := [], alts := [], laidByText := true, laidKinds := [.data, .data, .data, .data, .sentinel, .sentinel, .pinned], laidTests := true, laidLooks := .later }
def MessageBackUptoCardSaid : Prop := Claim7.holds Tryd.pinned (.plain (OpenSpec.upto messageBackSpec)) messageBackUptoCard

/-- THE SECOND FORM's CARD OF 'tailwaterlaw25.MessageSpare'. -/
def messageSpareUptoCard : Claim7 := { stood := { row := messageSpareUptoRow, standIns := [], harness := (true, "224877f098df230a1d8d0550119f44dde970ece9a31b1bd12f8fb3d53fbf7f70"), looks := true }, kinds := [], alts := [], laidByText := true, laidKinds := [.data, .data, .data, .data, .sentinel, .sentinel, .pinned], laidTests := true, laidLooks := .later }
def MessageSpareUptoCardSaid : Prop := Claim7.holds Tryd.pinned (.plain (OpenSpec.upto messageSpareSpec)) messageSpareUptoCard

/-- THE SECOND FORM's CARD OF 'tailwaterlaw25.MessageNames'. -/
def messageNamesUptoCard : Claim7 := { stood := { row := messageNamesUptoRow, standIns := [], harness := (true, "224877f098df230a1d8d0550119f44dde970ece9a31b1bd12f8fb3d53fbf7f70"), looks := true }, kinds := [], alts := [], laidByText := true, laidKinds := [.data, .data, .data, .data, .sentinel, .sentinel, .pinned], laidTests := true, laidLooks := .later }
def MessageNamesUptoCardSaid : Prop := Claim7.holds Tryd.pinned (.plain (OpenSpec.upto messageNamesSpec)) messageNamesUptoCard

/-- THE SECOND FORM's CARD OF 'tailwaterlaw25.MessageEvents'. -/
def messageEventsUptoCard : Claim7 := { stood := { row := messageEventsUptoRow, standIns := [], harness := (true, "224877f098df230a1d8d0550119f44dde970ece9a31b1bd12f8fb3d53fbf7f70"), looks := true }, kinds := [], alts := [], laidByText := true, laidKinds := [.data, .data, .data, .data, .sentinel, .sentinel, .pinned], laidTests := true, laidLooks := .later }
def MessageEventsUptoCardSaid : Prop := Claim7.holds Tryd.pinned (.plain (OpenSpec.upto messageEventsSpec)) messageEventsUptoCard
end Rows
end Go.Proofs.YtbjokogmfllcdaaDoor
