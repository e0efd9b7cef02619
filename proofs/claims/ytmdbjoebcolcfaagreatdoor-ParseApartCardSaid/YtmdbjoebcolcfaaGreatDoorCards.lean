/-
  DERIVED. GIVEN WITH THE SEED: THE CARDS: each row of YtmdbjoebcolcfaaGreatDoorRows.lean that lists a variable, with what it lists TIED to the program's text (the seventh form; the later family's looks); each row that meets fmt, with fmt's text TOLD by the authors' own Lean function (tested against real Go, not proved from fmt's source: count such statements apart). THE CARD IS WHAT COUNTS. Prove the row's statement (the work); the ties are given (YtmdbjoebcolcfaaGreatDoorTie.lean); close each card by the builder's one call (the guide's Derived/Test/ToyasCard.lean, 'card_holds'). Laid BY PROGRAM, IN A SANDBOX (cutbox-door.mjs). By AI agents, Wed Nov 11 2026. No macro, syntax, notation, axiom, sorry.
-/
import Derived.Test.YtmdbjoebcolcfaaGreatDoorRows
import GoSem.ClaimSeven
namespace Go.Proofs.YtmdbjoebcolcfaaGreatDoor
namespace Rows

/-- THE TIED CARD OF 'parchmentlaw07.ParseTells'. -/
def parseTellsCard : Claim7 := { stood := { row := parseTellsRow, standIns := [], harness := (true, "1aa86986d8ed58a98deea0728f95c291dd955a7835cf67a8eda324956965b940"), looks := true }, kinds := [], alts := [], laidByText := true, laidKinds := [.data, .data, .data, .widerDeep, .widerDeep, .pinned, .pinned], laidTests := true, laidLooks := .later }
def ParseTellsCardSaid : Prop := Claim7.holds Tryz.pinned (.plain (OpenSpec.ofChange parseTellsSpec)) parseTellsCard

/-- THE TIED CARD OF 'parchmentlaw07.ParseApart'. -/
def parseApartCard : Claim7 := { stood := { row := parseApartRow, standIns := [], harness := (true, "1aa86986d8ed58a98deea0728f95c291dd955a7835cf67a8eda324956965b940"), looks := true }, kinds := [], alts := [], laidByText := true, laidKinds := [.data, .data, .data, .widerDeep, .widerDeep, .pinned, .pinned], laidTests := true, laidLooks := .later }
def ParseApartCardSaid : Prop := Claim7.holds Tryz.pinned (.plain (OpenSpec.ofChange parseApartSpec)) parseApartCard

/-- THE TIED CARD OF 'parchmentlaw07.ParseNumbers'. -/
def parseNumbersCard : Claim7 := { stood := { row := parseNumbersRow, standIns := [], harness := (true, "1aa86986d8ed58a98deea0728f95c291dd955a7835cf67a8eda324956965b940"), looks := true }, kinds := [], alts := [], laidByText := true, laidKinds := [.data, .data, .data, .widerDeep, .widerDeep, .pinned, .pinned], laidTests := true, laidLooks := .later }
def ParseNumbersCardSaid : Prop := Claim7.holds Tryz.pinned (.plain (OpenSpec.ofChange parseNumbersSpec)) parseNumbersCard

/-- THE SECOND FORM's CARD OF 'parchmentlaw07.ParseTells'. -/
def parseTellsUptoCard : Claim7 := { stood := { row := parseTellsUptoRow, standIns := [], harness := (true, "1aa86986d8ed58a98deea0728f95c291dd955a7835cf67a8eda324956965b940"), looks := true }, kinds := [], alts := [], laidByText := true, laidKinds := [.data, .data, .data, .widerDeep, .widerDeep, .pinned, .pinned], laidTests := true, laidLooks := .later }
def ParseTellsUptoCardSaid : Prop := Claim7.holds Tryz.pinned (.plain (OpenSpec.upto parseTellsSpec)) parseTellsUptoCard

/-- THE SECOND FORM's CARD OF 'parchmentlaw07.ParseApart'. -/
def parseApartUptoCard : Claim7 := { stood := { row := parseApartUptoRow, standIns := [], harness := (true, "1aa86986d8ed58a98deea0728f95c291dd955a7835cf67a8eda324956965b940"), looks := true }, kinds := [], alts := [], laidByText := true, laidKinds := [.data, .data, .data, .widerDeep, .widerDeep, .pinned, .pinned], laidTests := true, laidLooks := .later }
def ParseApartUptoCardSaid : Prop := Claim7.holds Tryz.pinned (.plain (OpenSpec.upto parseApartSpec)) parseApartUptoCard

/-- THE SECOND FORM's CARD OF 'parchmentlaw07.ParseNumbers'. -/
def parseNumbersUptoCard : Claim7 := { stood := { row := parseNumbersUptoRow, standIns := [], harness := (true, "1aa86986d8ed58a98deea0728f95c291dd955a7835cf67a8eda324956965b940"), looks := true }, kinds := [], alts := [], laidByText := true, laidKinds := [.data, .data, .data, .widerDeep, .widerDeep, .pinned, .pinned], laidTests := true, laidLooks := .later }
def ParseNumbersUptoCardSaid : Prop := Claim7.holds Tryz.pinned (.plain (OpenSpec.upto parseNumbersSpec)) parseNumbersUptoCard
end Rows
end Go.Proofs.YtmdbjoebcolcfaaGreatDoor
