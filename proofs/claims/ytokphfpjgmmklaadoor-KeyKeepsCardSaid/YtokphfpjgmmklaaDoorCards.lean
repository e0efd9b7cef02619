/-
  DERIVED. GIVEN WITH THE SEED: THE CARDS: each row of YtokphfpjgmmklaaDoorRows.lean that lists a variable, with what it lists TIED to the program's text (the seventh form; the later family's looks); each row that meets fmt, with fmt's text TOLD by the authors' own Lean function (tested against real Go, not proved from fmt's source: count such statements apart). THE CARD IS WHAT COUNTS. Prove the row's statement (the work); the ties are given (YtokphfpjgmmklaaDoorTie.lean); close each card by the builder's one call (the guide's Derived/Test/ToyasCard.lean, 'card_holds'). Laid BY PROGRAM, IN A SANDBOX (cutbox-door.mjs). By AI agents, Wed Nov 11 2026. No macro, syntax, notation, axiom, sorry.
-/
import Derived.Test.YtokphfpjgmmklaaDoorRows
import GoSem.ClaimSeven
namespace Go.Proofs.YtokphfpjgmmklaaDoor
namespace Rows

/-- THE TIED CARD OF 'parchmentlaw04.KeyInts'. -/
def keyIntsCard : Claim7 := { stood := { row := keyIntsRow, standIns := [], harness := (true, "794d6fe5251c724de3e96f3d095c41057e6cb7908f45e3e69341f3102df6e7da"), looks := true }, kinds := [], alts := [], laidByText := true, laidKinds := [.data, .data, .data, .sentinel, .sentinel], laidTests := true, laidLooks := .later }
def KeyIntsCardSaid : Prop := Claim7.holds Tryd.pinned (.plain (OpenSpec.ofChange keyIntsSpec)) keyIntsCard

/-- THE TIED CARD OF 'parchmentlaw04.KeyRows'. -/
def keyRowsCard : Claim7 := { stood := { row := keyRowsRow, standIns := [], harness := (true, "794d6fe5251c724de3e96f3d095c41057e6cb7908f45e3e69341f3102df6e7da"), looks := true }, kinds := [], alts := [], laidByText := true, laidKinds := [.data, .data, .data, .sentinel, .sentinel], laidTests := true, laidLooks := .later }
def KeyRowsCardSaid : Prop := Claim7.holds Tryd.pinned (.plain (OpenSpec.ofChange keyRowsSpec)) keyRowsCard

/-- THE TIED CARD OF 'parchmentlaw04.KeyWholes'. -/
def keyWholesCard : Claim7 := { stood := { row := keyWholesRow, standIns := [], harness := (true, "794d6fe5251c724de3e96f3d095c41057e6cb7908f45e3e69341f3102df6e7da"), looks := true }, kinds := [], alts := [], laidByText := true, laidKinds := [.data, .data, .data, .sentinel, .sentinel], laidTests := true, laidLooks := .later }
def KeyWholesCardSaid : Prop := Claim7.holds Tryd.pinned (.plain (OpenSpec.ofChange keyWholesSpec)) keyWholesCard

/-- THE TIED CARD OF 'parchmentlaw04.KeyKeeps'. -/
def keyKeepsCard : Claim7 := { stood := { row := keyKeepsRow, standIns := [], harness := (true, "794d6fe5251c724de3e96f3d095c41057e6cb7908f45e3e69341f3102df6e7da"), looks := true }, kinds := [], alts := [], laidByText := true, laidKinds := [.data, .data, .data, .sentinel, .sentinel], laidTests := true, laidLooks := .later }
def KeyKeepsCardSaid : Prop := Claim7.holds Tryd.pinned (.plain (OpenSpec.ofChange keyKeepsSpec)) keyKeepsCard

/-- THE TIED CARD OF 'parchmentlaw04.KeyNumbers'. -/
def keyNumbersCard : Claim7 := { stood := { row := keyNumbersRow, standIns := [], harness := (true, "794d6fe5251c724de3e96f3d095c41057e6cb7908f45e3e69341f3102df6e7da"), looks := true }, kinds := [], alts := [], laidByText := true, laidKinds := [.data, .data, .data, .sentinel, .sentinel], laidTests := true, laidLooks := .later }
def KeyNumbersCardSaid : Prop := Claim7.holds Tryd.pinned (.plain (OpenSpec.ofChange keyNumbersSpec)) keyNumbersCard

/-- THE TIED CARD OF 'parchmentlaw04.KeyBack'. -/
def keyBackCard : Claim7 := { stood := { row := keyBackRow, standIns := [], harness := (true, "794d6fe5251c724de3e96f3d095c41057e6cb7908f45e3e69341f3102df6e7da"), looks := true }, kinds := [], alts := [], laidByText := true, laidKinds := [.data, .data, .data, .sentinel, .sentinel], laidTests := true, laidLooks := .later }
def KeyBackCardSaid : Prop := Claim7.holds Tryd.pinned (.plain (OpenSpec.ofChange keyBackSpec)) keyBackCard

/-- THE TIED CARD OF 'parchmentlaw04.KeyOrder'. -/
def keyOrderCard : Claim7 := { stood := { row := keyOrderRow, standIns := [], harness := (true, "794d6fe5251c724de3e96f3d095c41057e6cb7908f45e3e69341f3102df6e7da"), looks := true }, kinds := [], alts := [], laidByText := true, laidKinds := [.data, .data, .data, .sentinel, .sentinel], laidTests := true, laidLooks := .later }
def KeyOrderCardSaid : Prop := Claim7.holds Tryd.pinned (.plain (OpenSpec.ofChange keyOrderSpec)) keyOrderCard

/-- THE SECOND FORM's CARD OF 'parchmentlaw04.KeyInts'. -/
def keyIntsUptoCard : Claim7 := { stood := { row := keyIntsUptoRow, standIns := [], harness := (true, "794d6fe5251c724de3e96f3d095c41057e6cb7908f45e3e69341f3102df6e7da"), looks := true }, kinds := [], alts := [], laidByText := true, laidKinds := [.data, .data, .data, .sentinel, .sentinel], laidTests := true, laidLooks := .later }
def KeyIntsUptoCardSaid : Prop := Claim7.holds Tryd.pinned (.plain (OpenSpec.upto keyIntsSpec)) keyIntsUptoCard

/-- THE SECOND FORM's CARD OF 'parchmentlaw04.KeyRows'. -/
def keyRowsUptoCard : Claim7 := { stood := { row := keyRowsUptoRow, standIns := [], harness := (true, "794d6fe5251c724de3e96f3d095c41057e6cb7908f45e3e69341f3102df6e7da"), looks := true }, kinds := [], alts := [], laidByText := true, laidKinds := [.data, .data, .data, .sentinel, .sentinel], laidTests := true, laidLooks := .later }
def KeyRowsUptoCardSaid : Prop := Claim7.holds Tryd.pinned (.plain (OpenSpec.upto keyRowsSpec)) keyRowsUptoCard

/-- THE SECOND FORM's CARD OF 'parchmentlaw04.KeyWholes'. -/
def keyWholesUptoCard : Claim7 := { stood := { row := keyWholesUptoRow, standIns := [], harness := (true, "794d6fe5251c724de3e96f3d095c41057e6cb7908f45e3e69341f3102df6e7da"), looks := true }, kinds := [], alts := [], laidByText := true, laidKinds := [.data, .data, .data, .sentinel, .sentinel], laidTests := true, laidLooks := .later }
def KeyWholesUptoCardSaid : Prop := Claim7.holds Tryd.pinned (.plain (OpenSpec.upto keyWholesSpec)) keyWholesUptoCard

/-- THE SECOND FORM's CARD OF 'parchmentlaw04.KeyKeeps'. -/
def keyKeepsUptoCard : Claim7 := { stood := { row := keyKeepsUptoRow, standIns := [], harness := (true, "794d6fe5251c724de3e96f3d095c41057e6cb7908f45e3e69341f3102df6e7da"), looks := true }, kinds := [], alts := [], laidByText := true, laidKinds := [.data, .data, .data, .sentinel, .sentinel], laidTests := true, laidLooks := .later }
def KeyKeepsUptoCardSaid : Prop := Claim7.holds Tryd.pinned (.plain (OpenSpec.upto keyKeepsSpec)) keyKeepsUptoCard

/-- THE SECOND FORM's CARD OF 'parchmentlaw04.KeyNumbers'. -/
def keyNumbersUptoCard : Claim7 := { stood := { row := keyNumbersUptoRow, standIns := [], harness := (true, "794d6fe5251c724de3e96f3d095c41057e6cb7908f45e3e69341f3102df6e7da"), looks := true }, kinds := [], alts := [], laidByText := true, laidKinds := [.data, .data, .data, .sentinel, .sentinel], laidTests := true, laidLooks := .later }
def KeyNumbersUptoCardSaid : Prop := Claim7.holds Tryd.pinned (.plain (OpenSpec.upto keyNumbersSpec)) keyNumbersUptoCard

/-- THE SECOND FORM's CARD OF 'parchmentlaw04.KeyBack'. -/
def keyBackUptoCard : Claim7 := { stood := { row := keyBackUptoRow, standIns := [], harness := (true, "794d6fe5251c724de3e96f3d095c41057e6cb7908f45e3e69341f3102df6e7da"), looks := true }, kinds := [], alts := [], laidByText := true, laidKinds := [.data, .data, .data, .sentinel, .sentinel], laidTests := true, laidLooks := .later }
def KeyBackUptoCardSaid : Prop := Claim7.holds Tryd.pinned (.plain (OpenSpec.upto keyBackSpec)) keyBackUptoCard

/-- THE SECOND FORM's CARD OF 'parchmentlaw04.KeyOrder'. -/
def keyOrderUptoCard : Claim7 := { stood := { row := keyOrderUptoRow, standIns := [], harness := (true, "794d6fe5251c724de3e96f3d095c41057e6cb7908f45e3e69341f3102df6e7da"), looks := true }, kinds := [], alts := [], laidByText := true, laidKinds := [.data, .data, .data, .sentinel, .sentinel], laidTests := true, laidLooks := .later }
def KeyOrderUptoCardSaid : Prop := Claim7.holds Tryd.pinned (.plain (OpenSpec.upto keyOrderSpec)) keyOrderUptoCard
end Rows
end Go.Proofs.YtokphfpjgmmklaaDoor
