/-
  DERIVED. GIVEN WITH THE SEED: THE CARDS: each row of YtlaheponkbihaaaDoorRows.lean that lists a variable, with what it lists TIED to the program's text (the seventh form; the later family's looks); each row that meets fmt, with fmt's text TOLD by the authors' own Lean function (tested against real Go, not proved from fmt's source: count such statements apart). THE CARD IS WHAT COUNTS. Prove the row's statement (the work); the ties are given (YtlaheponkbihaaaDoorTie.lean); close each card by the builder's one call (the guide's Derived/Test/ToyasCard.lean, 'card_holds'). Laid BY PROGRAM, IN A SANDBOX (cutbox-door.mjs). By AI agents, Wed Nov 11 2026. No macro, syntax, notation, axiom, sorry.
-/
import Derived.Test.YtlaheponkbihaaaDoorRows
import GoSem.ClaimSeven
namespace Go.Proofs.YtlaheponkbihaaaDoor
namespace Rows

/-- THE TIED CARD OF 'parchmentlaw31.LinesCommands'. -/
def linesCommandsCard : Claim7 := { stood := { row := linesCommandsRow, standIns := [], harness := (true, "a4a6a91a61ff556bc7501495ecef082a08309d32f54542db0e128170110aaae5"), looks := true }, kinds := [], alts := [], laidByText := true, laidKinds := [.data, .data, .data, .data, .sentinel, .sentinel, .data, .data, .pinned], laidTests := true, laidLooks := .later }
def LinesCommandsCardSaid : Prop := Claim7.holds Tryd.pinned (.plain (OpenSpec.ofChange linesCommandsSpec)) linesCommandsCard

/-- THE TIED CARD OF 'parchmentlaw31.LinesBack'. -/
def linesBackCard : Claim7 := { stood := { row := linesBackRow, standIns := [], harness := (true, "a4a6a91a61ff556bc7501495ecef082a08309d32f54542db0e128170110aaae5"), looks := true }, kinds := [], alts := [], laidByText := true, laidKinds := [.data, .data, .data, .data, .sentinel, .sentinel, .data, .data, .pinned], laidTests := true, laidLooks := .later }
def LinesBackCardSaid : Prop := Claim7.holds Tryd.pinned (.plain (OpenSpec.ofChange linesBackSpec)) linesBackCard

/-- THE TIED CARD OF 'parchmentlaw31.LinesBlanks'. -/
def linesBlanksCard : Claim7 := { stood := { row := linesBlanksRow, standIns := [], harness := (true, "a4a6a91a61ff556bc7501495ecef082a08309d32f54542db0e128170110aaae5"), looks := true }, kinds := [], alts := [], laidByText := true, laidKinds := [.data, .data, .data, .data, .sentinel, .sentinel, .data, .data, .pinned], laidTests := true, laidLooks := .later }
def LinesBlanksCardSaid : Prop := Claim7.holds Tryd.pinned (.plain (OpenSpec.ofChange linesBlanksSpec)) linesBlanksCard

/-- THE SECOND FORM's CARD OF 'parchmentlaw31.LinesCommands'. -/
def linesCommandsUptoCard : Claim7 := { stood := { row := linesCommandsUptoRow, standIns := [], harness := (true, "a4a6a91a61ff556bc7501495ecef082a08309d32f54542db0e128170110aaae5"), looks := true }, kinds := [], alts := [], laidByText := true, laidKinds := [.data, .data, .data, .data, .sentinel, .sentinel, .data, .data, .pinned], laidTests := true, laidLooks := .later }
def LinesCommandsUptoCardSaid : Prop := Claim7.holds Tryd.pinned (.plain (OpenSpec.upto linesCommandsSpec)) linesCommandsUptoCard

/-- THE SECOND FORM's CARD OF 'parchmentlaw31.LinesBack'. -/
def linesBackUptoCard : Claim7 := { stood := { row := linesBackUptoRow, standIns := [], harness := (true, "a4a6a91a61ff556bc7501495ecef082a08309d32f54542db0e128170110aaae5"), looks := true }, kinds := [], alts := [], laidByText := true, laidKinds := [.data, .data, .data, .data, .sentinel, .sentinel, .data, .data, .pinned], laidTests := true, laidLooks := .later }
def LinesBackUptoCardSaid : Prop := Claim7.holds Tryd.pinned (.plain (OpenSpec.upto linesBackSpec)) linesBackUptoCard

/-- THE SECOND FORM's CARD OF 'parchmentlaw31.LinesBlanks'. -/
def linesBlanksUptoCard : Claim7 := { stood := { row := linesBlanksUptoRow, standIns := [], harness := (true, "a4a6a91a61ff556bc7501495ecef082a08309d32f54542db0e128170110aaae5"), looks := true }, kinds := [], alts := [], laidByText := true, laidKinds := [.data, .data, .data, .data, .sentinel, .sentinel, .data, .data, .pinned], laidTests := true, laidLooks := .later }
def LinesBlanksUptoCardSaid : Prop := Claim7.holds Tryd.pinned (.plain (OpenSpec.upto linesBlanksSpec)) linesBlanksUptoCard
end Rows
end Go.Proofs.YtlaheponkbihaaaDoor
