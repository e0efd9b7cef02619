/-
  DERIVED. GIVEN WITH THE SEED: THE CARDS: each row of YtkjodleggfacbaaDoorRows.lean that lists a variable, with what it lists TIED to the program's text (the seventh form; the later family's looks); each row that meets fmt, with fmt's text TOLD by the authors' own Lean function (tested against real Go, not proved from fmt's source: count such statements apart). THE CARD IS WHAT COUNTS. Prove the row's statement (the work); the ties are given (YtkjodleggfacbaaDoorTie.lean); close each card by the builder's one call (the guide's Derived/Test/ToyasCard.lean, 'card_holds'). Laid BY PROGRAM, IN A SANDBOX (cutbox-door.mjs). By AI agents, Wed Nov 11 2026. No macro, syntax, notation, axiom, sorry.
-/
import Derived.Test.YtkjodleggfacbaaDoorRows
import GoSem.ClaimSeven
namespace Go.Proofs.YtkjodleggfacbaaDoor
namespace Rows

/-- THE TIED CARD OF 'parchmentlaw08.PrintTells'. -/
def printTellsCard : Claim7 := { stood := { row := printTellsRow, standIns := [], harness := (true, "48717270f987401a0d2af4d0ad985c944820da93f1a4ca3d9ca2b4ab810d5c7d"), looks := false }, kinds := [], alts := [], laidByText := true, laidKinds := [.data, .data, .data, .widerDeep, .widerDeep, .data, .pinned, .pinned], laidTests := true, laidLooks := .later }
def PrintTellsCardSaid : Prop := Claim7.holds Tryd.pinned (.plain (OpenSpec.ofChange printTellsSpec)) printTellsCard

/-- THE TIED CARD OF 'parchmentlaw08.PrintTexts'. -/
def printTextsCard : Claim7 := { stood := { row := printTextsRow, standIns := [], harness := (true, "48717270f987401a0d2af4d0ad985c944820da93f1a4ca3d9ca2b4ab810d5c7d"), looks := false }, kinds := [], alts := [], laidByText := true, laidKinds := [.data, .data, .data, .widerDeep, .widerDeep, .data, .pinned, .pinned], laidTests := true, laidLooks := .later }
def PrintTextsCardSaid : Prop := Claim7.holds Tryd.pinned (.plain (OpenSpec.ofChange printTextsSpec)) printTextsCard

/-- THE TIED CARD OF 'parchmentlaw08.PrintNumbers'. -/
def printNumbersCard : Claim7 := { stood := { row := printNumbersRow, standIns := [], harness := (true, "48717270f987401a0d2af4d0ad985c944820da93f1a4ca3d9ca2b4ab810d5c7d"), looks := false }, kinds := [], alts := [], laidByText := true, laidKinds := [.data, .data, .data, .widerDeep, .widerDeep, .data, .pinned, .pinned], laidTests := true, laidLooks := .later }
def PrintNumbersCardSaid : Prop := Claim7.holds Tryd.pinned (.plain (OpenSpec.ofChange printNumbersSpec)) printNumbersCard

/-- THE SECOND FORM's CARD OF 'parchmentlaw08.PrintTells'. -/
def printTellsUptoCard : Claim7 := { stood := { row := printTellsUptoRow, standIns := [], harness := (true, "48717270f987401a0d2af4d0ad985c944820da93f1a4ca3d9ca2b4ab810d5c7d"), looks := false }, kinds := [], alts := [], laidByText := true, laidKinds := [.data, .data, .data, .widerDeep, .widerDeep, .data, .pinned, .pinned], laidTests := true, laidLooks := .later }
def PrintTellsUptoCardSaid : Prop := Claim7.holds Tryd.pinned (.plain (OpenSpec.upto printTellsSpec)) printTellsUptoCard

/-- THE SECOND FORM's CARD OF 'parchmentlaw08.PrintTexts'. -/
def printTextsUptoCard : Claim7 := { stood := { row := printTextsUptoRow, standIns := [], harness := (true, "48717270f987401a0d2af4d0ad985c944820da93f1a4ca3d9ca2b4ab810d5c7d"), looks := false }, kinds := [], alts := [], laidByText := true, laidKinds := [.data, .data, .data, .widerDeep, .widerDeep, .data, .pinned, .pinned], laidTests := true, laidLooks := .later }
def PrintTextsUptoCardSaid : Prop := Claim7.holds Tryd.pinned (.plain (OpenSpec.upto printTextsSpec)) printTextsUptoCard

/-- THE SECOND FORM's CARD OF 'parchmentlaw08.PrintNumbers'. -/
def printNumbersUptoCard : Claim7 := { stood := { row := printNumbersUptoRow, standIns := [], harness := (true, "48717270f987401a0d2af4d0ad985c944820da93f1a4ca3d9ca2b4ab810d5c7d"), looks := false }, kinds := [], alts := [], laidByText := true, laidKinds := [.data, .data, .data, .widerDeep, .widerDeep, .data, .pinned, .pinned], laidTests := true, laidLooks := .later }
def PrintNumbersUptoCardSaid : Prop := Claim7.holds Tryd.pinned (.plain (OpenSpec.upto printNumbersSpec)) printNumbersUptoCard
end Rows
end Go.Proofs.YtkjodleggfacbaaDoor
