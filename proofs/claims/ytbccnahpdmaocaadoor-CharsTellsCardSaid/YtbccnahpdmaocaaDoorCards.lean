/-
  DERIVED. GIVEN WITH THE SEED: THE CARDS: each row of YtbccnahpdmaocaaDoorRows.lean that lists a variable, with what it lists TIED to the program's text (the seventh form; the later family's looks); each row that meets fmt, with fmt's text TOLD by the authors' own Lean function (tested against real Go, not proved from fmt's source: count such statements apart). THE CARD IS WHAT COUNTS. Prove the row's statement (the work); the ties are given (YtbccnahpdmaocaaDoorTie.lean); close each card by the builder's one call (the guide's Derived/Test/ToyasCard.lean, 'card_holds'). Laid BY PROGRAM, IN A SANDBOX (cutbox-door.mjs). By AI agents, Wed Nov 11 2026. No macro, syntax, notation, axiom, sorry.
-/
import Derived.Test.YtbccnahpdmaocaaDoorRows
import GoSem.ClaimSeven
namespace Go.Proofs.YtbccnahpdmaocaaDoor
namespace Rows

/-- THE TIED CARD OF 'tailwaterlaw02.CharsNames'. -/
def charsNamesCard : Claim7 := { stood := { row := charsNamesRow, standIns := [], harness := (true, "9f9aff76c329dbb11a2dd0bf3e459f4f1ab90973be08e53583b2a83d3ae485a9"), looks := true }, kinds := [], alts := [], laidByText := true, laidKinds := [.data, .listed, .data, .pinned], laidTests := true, laidLooks := .later }
def CharsNamesCardSaid : Prop := Claim7.holds Tryd.pinned (.plain (OpenSpec.ofChange charsNamesSpec)) charsNamesCard

/-- THE TIED CARD OF 'tailwaterlaw02.CharsTells'. -/
def charsTellsCard : Claim7 := { stood := { row := charsTellsRow, standIns := [], harness := (true, "9f9aff76c329dbb11a2dd0bf3e459f4f1ab90973be08e53583b2a83d3ae485a9"), looks := true }, kinds := [], alts := [], laidByText := true, laidKinds := [.data, .listed, .data, .pinned], laidTests := true, laidLooks := .later }
def CharsTellsCardSaid : Prop := Claim7.holds Tryd.pinned (.plain (OpenSpec.ofChange charsTellsSpec)) charsTellsCard

/-- THE TIED CARD OF 'tailwaterlaw02.CharsKinds'. -/
def charsKindsCard : Claim7 := { stood := { row := charsKindsRow, standIns := [], harness := (true, "9f9aff76c329dbb11a2dd0bf3e459f4f1ab90973be08e53583b2a83d3ae485a9"), looks := true }, kinds := [], alts := [], laidByText := true, laidKinds := [.data, .listed, .data, .pinned], laidTests := true, laidLooks := .later }
def CharsKindsCardSaid : Prop := Claim7.holds Tryd.pinned (.plain (OpenSpec.ofChange charsKindsSpec)) charsKindsCard

/-- THE TIED CARD OF 'tailwaterlaw02.CharsLongest'. -/
def charsLongestCard : Claim7 := { stood := { row := charsLongestRow, standIns := [], harness := (true, "9f9aff76c329dbb11a2dd0bf3e459f4f1ab90973be08e53583b2a83d3ae485a9"), looks := true }, kinds := [], alts := [], laidByText := true, laidKinds := [.data, .listed, .data, .pinned], laidTests := true, laidLooks := .later }
def CharsLongestCardSaid : Prop := Claim7.holds Tryd.pinned (.plain (OpenSpec.ofChange charsLongestSpec)) charsLongestCard

/-- THE TIED CARD OF 'tailwaterlaw02.CharsPlace'. -/
def charsPlaceCard : Claim7 := { stood := { row := charsPlaceRow, standIns := [], harness := (true, "9f9aff76c329dbb11a2dd0bf3e459f4f1ab90973be08e53583b2a83d3ae485a9"), looks := true }, kinds := [], alts := [], laidByText := true, laidKinds := [.data, .listed, .data, .pinned], laidTests := true, laidLooks := .later }
def CharsPlaceCardSaid : Prop := Claim7.holds Tryd.pinned (.plain (OpenSpec.ofChange charsPlaceSpec)) charsPlaceCard

/-- THE TIED CARD OF 'tailwaterlaw02.CharsWords'. -/
def charsWordsCard : Claim7 := { stood := { row := charsWordsRow, standIns := [], harness := (true, "9f9aff76c329dbb11a2dd0bf3e459f4f1ab90973be08e53583b2a83d3ae485a9"), looks := true }, kinds := [], alts := [], laidByText := true, laidKinds := [.data, .listed, .data, .pinned], laidTests := true, laidLooks := .later }
def CharsWordsCardSaid : Prop := Claim7.holds Tryd.pinned (.plain (OpenSpec.ofChange charsWordsSpec)) charsWordsCard

/-- THE TIED CARD OF 'tailwaterlaw01.IntsTexts'. -/
def intsTextsCard : Claim7 := { stood := { row := intsTextsRow, standIns := [], harness := (true, "9f9aff76c329dbb11a2dd0bf3e459f4f1ab90973be08e53583b2a83d3ae485a9"), looks := true }, kinds := [], alts := [], laidByText := true, laidKinds := [.data, .data, .data, .data, .sentinel, .sentinel, .pinned], laidTests := true, laidLooks := .later }
def IntsTextsCardSaid : Prop := Claim7.holds Tryd.pinned (.plain (OpenSpec.ofChange intsTextsSpec)) intsTextsCard

/-- THE TIED CARD OF 'tailwaterlaw01.IntsRing'. -/
def intsRingCard : Claim7 := { stood := { row := intsRingRow, standIns := [], harness := (true, "9f9aff76c329dbb11a2dd0bf3e459f4f1ab90973be08e53583b2a83d3ae485a9"), looks := true }, kinds := [], alts := [], laidByText := true, laidKinds := [.data, .data, .data, .data, .sentinel, .sentinel, .pinned], laidTests := true, laidLooks := .later }
def IntsRingCardSaid : Prop := Claim7.holds Tryd.pinned (.plain (OpenSpec.ofChange intsRingSpec)) intsRingCard

/-- THE TIED CARD OF 'tailwaterlaw01.IntsShifts'. -/
def intsShiftsCard : Claim7 := { stood := { row := intsShiftsRow, standIns := [], harness := (true, "9f9aff76c329dbb11a2dd0bf3e459f4f1ab90973be08e53583b2a83d3ae485a9"), looks := true }, kinds := [], alts := [], laidByText := true, laidKinds := [.data, .data, .data, .data, .sentinel, .sentinel, .pinned], laidTests := true, laidLooks := .later }
def IntsShiftsCardSaid : Prop := Claim7.holds Tryd.pinned (.plain (OpenSpec.ofChange intsShiftsSpec)) intsShiftsCard

/-- THE TIED CARD OF 'tailwaterlaw01.IntsOrder'. -/
def intsOrderCard : Claim7 := { stood := { row := intsOrderRow, standIns := [], harness := (true, "9f9aff76c329dbb11a2dd0bf3e459f4f1ab90973be08e53583b2a83d3ae485a9"), looks := true }, kinds := [], alts := [], laidByText := true, laidKinds := [.data, .data, .data, .data, .sentinel, .sentinel, .pinned], laidTests := true, laidLooks := .later }
def IntsOrderCardSaid : Prop := Claim7.holds Tryd.pinned (.plain (OpenSpec.ofChange intsOrderSpec)) intsOrderCard

/-- THE TIED CARD OF 'tailwaterlaw01.IntsNames'. -/
def intsNamesCard : Claim7 := { stood := { row := intsNamesRow, standIns := [], harness := (true, "9f9aff76c329dbb11a2dd0bf3e459f4f1ab90973be08e53583b2a83d3ae485a9"), looks := true }, kinds := [], alts := [], laidByText := true, laidKinds := [.data, .data, .data, .data, .sentinel, .sentinel, .pinned], laidTests := true, laidLooks := .later }
def IntsNamesCardSaid : Prop := Claim7.holds Tryd.pinned (.plain (OpenSpec.ofChange intsNamesSpec)) intsNamesCard

/-- THE SECOND FORM's CARD OF 'tailwaterlaw02.CharsNames'. -/
def charsNamesUptoCard : Claim7 := { stood := { row := charsNamesUptoRow, standIns := [], harness := (true, "9f9aff76c329dbb11a2dd0bf3e459f4f1ab90973be08e53583b2a83d3ae485a9"), looks := true }, kinds := [], alts := [], laidByText := true, laidKinds := [.data, .listed, .data, .pinned], laidTests := true, laidLooks := .later }
def CharsNamesUptoCardSaid : Prop := Claim7.holds Tryd.pinned (.plain (OpenSpec.upto charsNamesSpec)) charsNamesUptoCard

/-- THE SECOND FORM's CARD OF 'tailwaterlaw02.CharsTells'. -/
def charsTellsUptoCard : Claim7 := { stood := { row := charsTellsUptoRow, standIns := [], harness := (true, "9f9aff76c329dbb11a2dd0bf3e459f4f1ab90973be08e53583b2a83d3ae485a9"), looks := true }, kinds := [], alts := [], laidByText := true, laidKinds := [.data, .listed, .data, .pinned], laidTests := true, laidLooks := .later }
def CharsTellsUptoCardSaid : Prop := Claim7.holds Tryd.pinned (.plain (OpenSpec.upto charsTellsSpec)) charsTellsUptoCard

/-- THE SECOND FORM's CARD OF 'tailwaterlaw02.CharsKinds'. -/
def charsKindsUptoCard : Claim7 := { stood := { row := charsKindsUptoRow, standIns := [], harness := (true, "9f9aff76c329dbb11a2dd0bf3e459f4f1ab90973be08e53583b2a83d3ae485a9"), looks := true }, kinds := [], alts := [], laidByText := true, laidKinds := [.data, .listed, .data, .pinned], laidTests := true, laidLooks := .later }
def CharsKindsUptoCardSaid : Prop := Claim7.holds Tryd.pinned (.plain (OpenSpec.upto charsKindsSpec)) charsKindsUptoCard

/-- THE SECOND FORM's CARD OF 'tailwaterlaw02.CharsLongest'. -/
def charsLongestUptoCard : Claim7 := { stood := { row := charsLongestUptoRow, standIns := [], harness := (true, "9f9aff76c329dbb11a2dd0bf3e459f4f1ab90973be08e53583b2a83d3ae485a9"), looks := true }, kinds := [], alts := [], laidByText := true, laidKinds := [.data, .listed, .data, .pinned], laidTests := true, laidLooks := .later }
def CharsLongestUptoCardSaid : Prop := Claim7.holds Tryd.pinned (.plain (OpenSpec.upto charsLongestSpec)) charsLongestUptoCard

/-- THE SECOND FORM's CARD OF 'tailwaterlaw02.CharsPlace'. -/
def charsPlaceUptoCard : Claim7 := { stood := { row := charsPlaceUptoRow, standIns := [], harness := (true, "9f9aff76c329dbb11a2dd0bf3e459f4f1ab90973be08e53583b2a83d3ae485a9"), looks := true }, kinds := [], alts := [], laidByText := true, laidKinds := [.data, .listed, .data, .pinned], laidTests := true, laidLooks := .later }
def CharsPlaceUptoCardSaid : Prop := Claim7.holds Tryd.pinned (.plain (OpenSpec.upto charsPlaceSpec)) charsPlaceUptoCard

/-- THE SECOND FORM's CARD OF 'tailwaterlaw02.CharsWords'. -/
def charsWordsUptoCard : Claim7 := { stood := { row := charsWordsUptoRow, standIns := [], harness := (true, "9f9aff76c329dbb11a2dd0bf3e459f4f1ab90973be08e53583b2a83d3ae485a9"), looks := true }, kinds := [], alts := [], laidByText := true, laidKinds := [.data, .listed, .data, .pinned], laidTests := true, laidLooks := .later }
def CharsWordsUptoCardSaid : Prop := Claim7.holds Tryd.pinned (.plain (OpenSpec.upto charsWordsSpec)) charsWordsUptoCard

/-- THE SECOND FORM's CARD OF 'tailwaterlaw01.IntsTexts'. -/
def intsTextsUptoCard : Claim7 := { stood := { row := intsTextsUptoRow, standIns := [], harness := (true, "9f9aff76c329dbb11a2dd0bf3e459f4f1ab90973be08e53583b2a83d3ae485a9"), looks := true }, kinds := [], alts := [], laidByText := true, laidKinds := [.data, .data, .data, .data, .sentinel, .sentinel, .pinned], laidTests := true, laidLooks := .later }
def IntsTextsUptoCardSaid : Prop := Claim7.holds Tryd.pinned (.plain (OpenSpec.upto intsTextsSpec)) intsTextsUptoCard

/-- THE SECOND FORM's CARD OF 'tailwaterlaw01.IntsRing'. -/
def intsRingUptoCard : Claim7 := { stood := { row := intsRingUptoRow, standIns := [], harness := (true, "9f9aff76c329dbb11a2dd0bf3e459f4f1ab90973be08e53583b2a83d3ae485a9"), looks := true }, kinds := [], alts := [], laidByText := true, laidKinds := [.data, .data, .data, .data, .sentinel, .sentinel, .pinned], laidTests := true, laidLooks := .later }
def IntsRingUptoCardSaid : Prop := Claim7.holds Tryd.pinned (.plain (OpenSpec.upto intsRingSpec)) intsRingUptoCard

/-- THE SECOND FORM's CARD OF 'tailwaterlaw01.IntsShifts'. -/
def intsShiftsUptoCard : Claim7 := { stood := { row := intsShiftsUptoRow, standIns := [], harness := (true, "9f9aff76c329dbb11a2dd0bf3e459f4f1ab90973be08e53583b2a83d3ae485a9"), looks := true }, kinds := [], alts := [], laidByText := true, laidKinds := [.data, .data, .data, .data, .sentinel, .sentinel, .pinned], laidTests := true, laidLooks := .later }
def IntsShiftsUptoCardSaid : Prop := Claim7.holds Tryd.pinned (.plain (OpenSpec.upto intsShiftsSpec)) intsShiftsUptoCard

/-- THE SECOND FORM's CARD OF 'tailwaterlaw01.IntsOrder'. -/
def intsOrderUptoCard : Claim7 := { stood := { row := intsOrderUptoRow, standIns := [], harness := (true, "9f9aff76c329dbb11a2dd0bf3e459f4f1ab90973be08e53583b2a83d3ae485a9"), looks := true }, kinds := [], alts := [], laidByText := true, laidKinds := [.data, .data, .data, .data, .sentinel, .sentinel, .pinned], laidTests := true, laidLooks := .later }
def IntsOrderUptoCardSaid : Prop := Claim7.holds Tryd.pinned (.plain (OpenSpec.upto intsOrderSpec)) intsOrderUptoCard

/-- THE SECOND FORM's CARD OF 'tailwaterlaw01.IntsNames'. -/
def intsNamesUptoCard : Claim7 := { stood := { row := intsNamesUptoRow, standIns := [], harness := (true, "9f9aff76c329dbb11a2dd0bf3e459f4f1ab90973be08e53583b2a83d3ae485a9"), looks := true }, kinds := [], alts := [], laidByText := true, laidKinds := [.data, .data, .data, .data, .sentinel, .sentinel, .pinned], laidTests := true, laidLooks := .later }
def IntsNamesUptoCardSaid : Prop := Claim7.holds Tryd.pinned (.plain (OpenSpec.upto intsNamesSpec)) intsNamesUptoCard
end Rows
end Go.Proofs.YtbccnahpdmaocaaDoor
