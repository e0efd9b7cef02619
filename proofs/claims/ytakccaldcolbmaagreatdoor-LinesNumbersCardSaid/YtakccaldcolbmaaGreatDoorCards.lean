/-
  DERIVED. GIVEN WITH THE SEED: THE CARDS: each row of YtakccaldcolbmaaGreatDoorRows.lean that lists a variable, with what it lists TIED to the program's text (the seventh form; the later family's looks); each row that meets fmt, with fmt's text TOLD by the authors' own Lean function (tested against real Go, not proved from fmt's source: count such statements apart). THE CARD IS WHAT COUNTS. Prove the row's statement (the work); the ties are given (YtakccaldcolbmaaGreatDoorTie.lean); close each card by the builder's one call (the guide's Derived/Test/ToyasCard.lean, 'card_holds'). Laid BY PROGRAM, IN A SANDBOX (cutbox-door.mjs). By AI agents, Wed Nov 11 2026. No macro, syntax, notation, axiom, sorry.
-/
import Derived.Test.YtakccaldcolbmaaGreatDoorRows
import GoSem.ClaimSeven
namespace Go.Proofs.YtakccaldcolbmaaGreatDoor
namespace Rows

/-- THE TIED CARD OF 'parchmentlaw31.LinesShows'. -/
def linesShowsCard : Claim7 := { stood := { row := linesShowsRow, standIns := [], harness := (true, "88b50075e5d101b955b8491e0bf84bc2237fbd8e14240f2b012688fcf6ef2253"), looks := true }, kinds := [], alts := [], laidByText := true, laidKinds := [.data, .data, .data, .data, .sentinel, .sentinel, .data, .data, .pinned], laidTests := true, laidLooks := .later }
def LinesShowsCardSaid : Prop := Claim7.holds Tryz.pinned (.plain (OpenSpec.ofChange linesShowsSpec)) linesShowsCard

/-- THE TIED CARD OF 'parchmentlaw31.LinesNumbers'. -/
def linesNumbersCard : Claim7 := { stood := { row := linesNumbersRow, standIns := [], harness := (true, "88b50075e5d101b955b8491e0bf84bc2237fbd8e14240f2b012688fcf6ef2253"), looks := true }, kinds := [], alts := [], laidByText := true, laidKinds := [.data, .data, .data, .data, .sentinel, .sentinel, .data, .data, .pinned], laidTests := true, laidLooks := .later }
def LinesNumbersCardSaid : Prop := Claim7.holds Tryz.pinned (.plain (OpenSpec.ofChange linesNumbersSpec)) linesNumbersCard

/-- THE SECOND FORM's CARD OF 'parchmentlaw31.LinesShows'. -/
def linesShowsUptoCard : Claim7 := { stood := { row := linesShowsUptoRow, standIns := [], harness := (true, "88b50075e5d101b955b8491e0bf84bc2237fbd8e14240f2b012688fcf6ef2253"), looks := true }, kinds := [], alts := [], laidByText := true, laidKinds := [.data, .data, .data, .data, .sentinel, .sentinel, .data, .data, .pinned], laidTests := true, laidLooks := .later }
def LinesShowsUptoCardSaid : Prop := Claim7.holds Tryz.pinned (.plain (OpenSpec.upto linesShowsSpec)) linesShowsUptoCard

/-- THE SECOND FORM's CARD OF 'parchmentlaw31.LinesNumbers'. -/
def linesNumbersUptoCard : Claim7 := { stood := { row := linesNumbersUptoRow, standIns := [], harness := (true, "88b50075e5d101b955b8491e0bf84bc2237fbd8e14240f2b012688fcf6ef2253"), looks := true }, kinds := [], alts := [], laidByText := true, laidKinds := [.data, .data, .data, .data, .sentinel, .sentinel, .data, .data, .pinned], laidTests := true, laidLooks := .later }
def LinesNumbersUptoCardSaid : Prop := Claim7.holds Tryz.pinned (.plain (OpenSpec.upto linesNumbersSpec)) linesNumbersUptoCard
end Rows
end Go.Proofs.YtakccaldcolbmaaGreatDoor
