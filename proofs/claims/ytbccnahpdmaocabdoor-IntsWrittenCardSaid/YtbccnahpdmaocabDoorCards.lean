/-
  DERIVED. GIVEN WITH THE SEED: THE CARDS: each row of YtbccnahpdmaocabDoorRows.lean that lists a variable, with what it lists TIED to the program's text (the seventh form; the later family's looks); each row that meets fmt, with fmt's text TOLD by the authors' own Lean function (tested against real Go, not proved from fmt's source: count such statements apart). THE CARD IS WHAT COUNTS. Prove the row's statement (the work); the ties are given (YtbccnahpdmaocabDoorTie.lean); close each card by the builder's one call (the guide's Derived/Test/ToyasCard.lean, 'card_holds'). Laid BY PROGRAM, IN A SANDBOX (cutbox-door.mjs). By AI agents, Wed Nov 11 2026. No macro, syntax, notation, axiom, sorry.
-/
import Derived.Test.YtbccnahpdmaocabDoorRows
import GoSem.ClaimSeven
namespace Go.Proofs.YtbccnahpdmaocabDoor
namespace Rows

/-- THE TIED CARD OF 'tailwaterlaw01.IntsWritten'. -/
def intsWrittenCard : Claim7 := { stood := { row := intsWrittenRow, standIns := [], harness := (true, "ab1e0e85aed5e2094aedfb869ca63e578442673422ecdb65c23cb5e19fdf39a3"), looks := true }, kinds := [], alts := [], laidByText := true, laidKinds := [.data, .data, .data, .data, .sentinel, .sentinel, .pinned], laidTests := true, laidLooks := .later }
def IntsWrittenCardSaid : Prop := Claim7.holds Tryd.pinned (.plain (OpenSpec.ofChange intsWrittenSpec)) intsWrittenCard

/-- THE SECOND FORM's CARD OF 'tailwaterlaw01.IntsWritten'. -/
def intsWrittenUptoCard : Claim7 := { stood := { row := intsWrittenUptoRow, standIns := [], harness := (true, "ab1e0e85aed5e2094aedfb869ca63e578442673422ecdb65c23cb5e19fdf39a3"), looks := true }, kinds := [], alts := [], laidByText := true, laidKinds := [.data, .data, .data, .data, .sentinel, .sentinel, .pinned], laidTests := true, laidLooks := .later }
def IntsWrittenUptoCardSaid : Prop := Claim7.holds Tryd.pinned (.plain (OpenSpec.upto intsWrittenSpec)) intsWrittenUptoCard
end Rows
end Go.Proofs.YtbccnahpdmaocabDoor
