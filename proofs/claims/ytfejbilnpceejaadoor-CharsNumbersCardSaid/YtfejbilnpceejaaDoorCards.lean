/-
  DERIVED. GIVEN WITH THE SEED: THE CARDS: each row of YtfejbilnpceejaaDoorRows.lean that lists a variable, with what it lists TIED to the program's text (the seventh form; the later family's looks); each row that meets fmt, with fmt's text TOLD by the authors' own Lean function (tested against real Go, not proved from fmt's source: count such statements apart). THE CARD IS WHAT COUNTS. Prove the row's statement (the work); the ties are given (YtfejbilnpceejaaDoorTie.lean); close each card by the builder's one call (the guide's Derived/Test/ToyasCard.lean, 'card_holds'). Laid BY PROGRAM, IN A SANDBOX (cutbox-door.mjs). By AI agents, Wed Nov 11 2026. No macro, syntax, notation, axiom, sorry.
-/
import Derived.Test.YtfejbilnpceejaaDoorRows
import GoSem.ClaimSeven
namespace Go.Proofs.YtfejbilnpceejaaDoor
namespace Rows

/-- THE TIED CARD OF 'parchmentlaw05.CharsRunes'. -/
def charsRunesCard : Claim7 := { stood := { row := charsRunesRow, standIns := [], harness := (true, "d00cf3e3574e67052525c0bf92f8ea7d5d0fda6957cc7fbe6a4482e1badf8e34"), looks := false }, kinds := [], alts := [], laidByText := true, laidKinds := [.data, .widerDeep, .widerDeep, .pinned], laidTests := true, laidLooks := .later }
def CharsRunesCardSaid : Prop := Claim7.holds Tryd.pinned (.plain (OpenSpec.ofChange charsRunesSpec)) charsRunesCard

/-- THE TIED CARD OF 'parchmentlaw05.CharsTexts'. -/
def charsTextsCard : Claim7 := { stood := { row := charsTextsRow, standIns := [], harness := (true, "d00cf3e3574e67052525c0bf92f8ea7d5d0fda6957cc7fbe6a4482e1badf8e34"), looks := false }, kinds := [], alts := [], laidByText := true, laidKinds := [.data, .widerDeep, .widerDeep, .pinned], laidTests := true, laidLooks := .later }
def CharsTextsCardSaid : Prop := Claim7.holds Tryd.pinned (.plain (OpenSpec.ofChange charsTextsSpec)) charsTextsCard

/-- THE TIED CARD OF 'parchmentlaw05.CharsWithin'. -/
def charsWithinCard : Claim7 := { stood := { row := charsWithinRow, standIns := [], harness := (true, "d00cf3e3574e67052525c0bf92f8ea7d5d0fda6957cc7fbe6a4482e1badf8e34"), looks := false }, kinds := [], alts := [], laidByText := true, laidKinds := [.data, .widerDeep, .widerDeep, .pinned], laidTests := true, laidLooks := .later }
def CharsWithinCardSaid : Prop := Claim7.holds Tryd.pinned (.plain (OpenSpec.ofChange charsWithinSpec)) charsWithinCard

/-- THE TIED CARD OF 'parchmentlaw05.CharsJoined'. -/
def charsJoinedCard : Claim7 := { stood := { row := charsJoinedRow, standIns := [], harness := (true, "d00cf3e3574e67052525c0bf92f8ea7d5d0fda6957cc7fbe6a4482e1badf8e34"), looks := false }, kinds := [], alts := [], laidByText := true, laidKinds := [.data, .widerDeep, .widerDeep, .pinned], laidTests := true, laidLooks := .later }
def CharsJoinedCardSaid : Prop := Claim7.holds Tryd.pinned (.plain (OpenSpec.ofChange charsJoinedSpec)) charsJoinedCard

/-- THE TIED CARD OF 'parchmentlaw05.CharsNumbers'. -/
def charsNumbersCard : Claim7 := { stood := { row := charsNumbersRow, standIns := [], harness := (true, "d00cf3e3574e67052525c0bf92f8ea7d5d0fda6957cc7fbe6a4482e1badf8e34"), looks := false }, kinds := [], alts := [], laidByText := true, laidKinds := [.data, .widerDeep, .widerDeep, .pinned], laidTests := true, laidLooks := .later }
def CharsNumbersCardSaid : Prop := Claim7.holds Tryd.pinned (.plain (OpenSpec.ofChange charsNumbersSpec)) charsNumbersCard

/-- THE SECOND FORM's CARD OF 'parchmentlaw05.CharsRunes'. -/
def charsRunesUptoCard : Claim7 := { stood := { row := charsRunesUptoRow, standIns := [], harness := (true, "d00cf3e3574e67052525c0bf92f8ea7d5d0fda6957cc7fbe6a4482e1badf8e34"), looks := false }, kinds := [], alts := [], laidByText := true, laidKinds := [.data, .widerDeep, .widerDeep, .pinned], laidTests := true, laidLooks := .later }
def CharsRunesUptoCardSaid : Prop := Claim7.holds Tryd.pinned (.plain (OpenSpec.upto charsRunesSpec)) charsRunesUptoCard

/-- THE SECOND FORM's CARD OF 'parchmentlaw05.CharsTexts'. -/
def charsTextsUptoCard : Claim7 := { stood := { row := charsTextsUptoRow, standIns := [], harness := (true, "d00cf3e3574e67052525c0bf92f8ea7d5d0fda6957cc7fbe6a4482e1badf8e34"), looks := false }, kinds := [], alts := [], laidByText := true, laidKinds := [.data, .widerDeep, .widerDeep, .pinned], laidTests := true, laidLooks := .later }
def CharsTextsUptoCardSaid : Prop := Claim7.holds Tryd.pinned (.plain (OpenSpec.upto charsTextsSpec)) charsTextsUptoCard

/-- THE SECOND FORM's CARD OF 'parchmentlaw05.CharsWithin'. -/
def charsWithinUptoCard : Claim7 := { stood := { row := charsWithinUptoRow, standIns := [], harness := (true, "d00cf3e3574e67052525c0bf92f8ea7d5d0fda6957cc7fbe6a4482e1badf8e34"), looks := false }, kinds := [], alts := [], laidByText := true, laidKinds := [.data, .widerDeep, .widerDeep, .pinned], laidTests := true, laidLooks := .later }
def CharsWithinUptoCardSaid : Prop := Claim7.holds Tryd.pinned (.plain (OpenSpec.upto charsWithinSpec)) charsWithinUptoCard

/-- THE SECOND FORM's CARD OF 'parchmentlaw05.CharsJoined'. -/
def charsJoinedUptoCard : Claim7 := { stood := { row := charsJoinedUptoRow, standIns := [], harness := (true, "d00cf3e3574e67052525c0bf92f8ea7d5d0fda6957cc7fbe6a4482e1badf8e34"), looks := false }, kinds := [], alts := [], laidByText := true, laidKinds := [.data, .widerDeep, .widerDeep, .pinned], laidTests := true, laidLooks := .later }
def CharsJoinedUptoCardSaid : Prop := Claim7.holds Tryd.pinned (.plain (OpenSpec.upto charsJoinedSpec)) charsJoinedUptoCard

/-- THE SECOND FORM's CARD OF 'parchmentlaw05.CharsNumbers'. -/
def charsNumbersUptoCard : Claim7 := { stood := { row := charsNumbersUptoRow, standIns := [], harness := (true, "d00cf3e3574e67052525c0bf92f8ea7d5d0fda6957cc7fbe6a4482e1badf8e34"), looks := false }, kinds := [], alts := [], laidByText := true, laidKinds := [.data, .widerDeep, .widerDeep, .pinned], laidTests := true, laidLooks := .later }
def CharsNumbersUptoCardSaid : Prop := Claim7.holds Tryd.pinned (.plain (OpenSpec.upto charsNumbersSpec)) charsNumbersUptoCard
end Rows
end Go.Proofs.YtfejbilnpceejaaDoor
