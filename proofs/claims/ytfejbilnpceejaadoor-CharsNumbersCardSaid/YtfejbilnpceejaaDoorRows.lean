/-
  NARROWER THAN 'FOR EVERY INPUT', by the rows' own cells (each row's printed sentence says how): CharsRunes: laid · CharsTexts: laid · CharsWithin: laid · CharsJoined: laid · CharsNumbers: laid.
  DERIVED. THE GIVEN ROWS OF THIS SEAT. 5 by the template 'for every input the law returns true; each argument reads behind the call as it read before'; 0 by the template 'total and deterministic' (their statements: YtfejbilnpceejaaDoorTotals.lean).
  GIVEN WITH THE SEED: the statements are not yours to turn. If you find one false, say at which input.
  Laid BY PROGRAM, IN A SANDBOX (cutbox-rows.mjs): the forced cells as the released guide's own fill.sh prints them over the translation 26da74c84f926bde… (all of the seat's roots in one cut). By AI agents, Wed Nov 11 2026. No macro, syntax, notation, axiom, sorry.
-/
import Derived.Test.YtfejbilnpceejaaDoorChecked
import GoSem.PinnedTables
import GoSem.Claim
import GoSem.ClaimJoined
import GoSem.ClaimMapViews
import Derived.JoinedTies
import Derived.KernelRfl
namespace Go.Proofs.YtfejbilnpceejaaDoor
/- THE CELL 'sum', in the pinned program and in every row, IS THE sha256 OF THE DUMP (.gsa) THAT YtfejbilnpceejaaDoorProg.lean LOADS. Nothing in Lean hashes anything: it is a label: what it is worth is what the hold of that sum in a sandbox is worth. -/
noncomputable def Tryd.pinned : Pinned := { name := "ytfejbilnpceejaadoor", sum := "26da74c84f926bde39f6407103de661d0c3cdb23f79b7b1a0b9e46c57eead6af", checked := Tryd.checked }
namespace Rows
def none {H : Type} : Left H := { results := [], args := [] }

/- WHAT THE LISTED PACKAGE-LEVEL VARIABLES READ AS WHEN THE CALL BEGINS. Each datum BY PROGRAM (the guide's laid-datum.mjs) off the statement by which the dump's own 'gosem.cut.vars' lays the variable. In a bare row this is a premise. The card (YtfejbilnpceejaaDoorCards.lean) ties it to the program's text. -/
def laid_unicode_utf8_acceptRanges {H : Type} : DataW H := .agg [.agg [.lit (.int .u8 128), .lit (.int .u8 191)], .agg [.lit (.int .u8 160), .lit (.int .u8 191)], .agg [.lit (.int .u8 128), .lit (.int .u8 159)], .agg [.lit (.int .u8 144), .lit (.int .u8 191)], .agg [.lit (.int .u8 128), .lit (.int .u8 143)], .agg [.lit (.int .u8 0), .lit (.int .u8 0)], .agg [.lit (.int .u8 0), .lit (.int .u8 0)], .agg [.lit (.int .u8 0), .lit (.int .u8 0)], .agg [.lit (.int .u8 0), .lit (.int .u8 0)], .agg [.lit (.int .u8 0), .lit (.int .u8 0)], .agg [.lit (.int .u8 0), .lit (.int .u8 0)], .agg [.lit (.int .u8 0), .lit (.int .u8 0)], .agg [.lit (.int .u8 0), .lit (.int .u8 0)], .agg [.lit (.int .u8 0), .lit (.int .u8 0)], .agg [.lit (.int .u8 0), .lit (.int .u8 0)], .agg [.lit (.int .u8 0), .lit (.int .u8 0)]]
def laid_parchment_chars_starts {H : Type} : DataW H := .agg [.agg [.lit (.int .i32 65), .lit (.int .i32 90)], .agg [.lit (.int .i32 95), .lit (.int .i32 95)], .agg [.lit (.int .i32 97), .lit (.int .i32 122)], .agg [.lit (.int .i32 192), .lit (.int .i32 214)], .agg [.lit (.int .i32 216), .lit (.int .i32 246)], .agg [.lit (.int .i32 248), .lit (.int .i32 767)], .agg [.lit (.int .i32 880), .lit (.int .i32 893)], .agg [.lit (.int .i32 895), .lit (.int .i32 8191)], .agg [.lit (.int .i32 8204), .lit (.int .i32 8205)], .agg [.lit (.int .i32 8304), .lit (.int .i32 8591)], .agg [.lit (.int .i32 11264), .lit (.int .i32 12271)], .agg [.lit (.int .i32 12289), .lit (.int .i32 55295)], .agg [.lit (.int .i32 63744), .lit (.int .i32 64975)], .agg [.lit (.int .i32 65008), .lit (.int .i32 65533)], .agg [.lit (.int .i32 65536), .lit (.int .i32 983039)]]
def laid_parchment_chars_others {H : Type} : DataW H := .agg [.agg [.lit (.int .i32 45), .lit (.int .i32 46)], .agg [.lit (.int .i32 48), .lit (.int .i32 57)], .agg [.lit (.int .i32 183), .lit (.int .i32 183)], .agg [.lit (.int .i32 768), .lit (.int .i32 879)], .agg [.lit (.int .i32 8255), .lit (.int .i32 8256)]]
/-- One of Go's own tables, pinned by name: the form's constant. -/
def laid_unicode_utf8_first : DataW Unit := Go.Pinned.utf8First

/-- 'parchmentlaw05.CharsRunes': WHATEVER THE INPUT: true; the input reads as it did. -/
def charsRunesSpec : ChangeSpec := { name := "charsRunes", fn := fun _ => fun
  | [d] => { results := [.lit (.bool true)], args := [d] }
  | _ => none }
def charsRunesRow : OpenClaim := { program := "ytfejbilnpceejaadoor", sum := "26da74c84f926bde39f6407103de661d0c3cdb23f79b7b1a0b9e46c57eead6af", func := "parchment/parchmentlaw05.CharsRunes", spec := "charsRunes", inPlace := ["internal/bytealg.IndexByteString", "internal/bytealg.IndexString"], named := ["parchment/chars.starts", "parchment/chars.others", "unicode/utf8.first", "unicode/utf8.acceptRanges", "internal/bytealg.MaxLen"], apart := false, laid := [("unicode/utf8.acceptRanges", laid_unicode_utf8_acceptRanges), ("parchment/chars.starts", laid_parchment_chars_starts), ("parchment/chars.others", laid_parchment_chars_others), ("unicode/utf8.first", laid_unicode_utf8_first)] }
def CharsRunesSaid : Prop := charsRunesRow.holds Tryd.pinned (OpenSpec.ofChange charsRunesSpec)

/-- ITS FALSE NEIGHBOUR: 'it returns false'. Refute it at one input. -/
def charsRunesWrong : ChangeSpec := { name := "charsRunes", fn := fun _ => fun
  | [d] => { results := [.lit (.bool false)], args := [d] }
  | _ => none }
def CharsRunesWrongFalsely : Prop := charsRunesRow.holds Tryd.pinned (OpenSpec.ofChange charsRunesWrong)

/-- 'parchmentlaw05.CharsTexts': WHATEVER THE INPUT: true; the input reads as it did. -/
def charsTextsSpec : ChangeSpec := { name := "charsTexts", fn := fun _ => fun
  | [d] => { results := [.lit (.bool true)], args := [d] }
  | _ => none }
def charsTextsRow : OpenClaim := { program := "ytfejbilnpceejaadoor", sum := "26da74c84f926bde39f6407103de661d0c3cdb23f79b7b1a0b9e46c57eead6af", func := "parchment/parchmentlaw05.CharsTexts", spec := "charsTexts", inPlace := ["internal/bytealg.IndexByteString", "internal/bytealg.IndexString"], named := ["parchment/chars.starts", "parchment/chars.others", "unicode/utf8.first", "unicode/utf8.acceptRanges", "internal/bytealg.MaxLen"], apart := false, laid := [("unicode/utf8.acceptRanges", laid_unicode_utf8_acceptRanges), ("parchment/chars.starts", laid_parchment_chars_starts), ("parchment/chars.others", laid_parchment_chars_others), ("unicode/utf8.first", laid_unicode_utf8_first)] }
def CharsTextsSaid : Prop := charsTextsRow.holds Tryd.pinned (OpenSpec.ofChange charsTextsSpec)

/-- ITS FALSE NEIGHBOUR: 'it returns false'. Refute it at one input. -/
def charsTextsWrong : ChangeSpec := { name := "charsTexts", fn := fun _ => fun
  | [d] => { results := [.lit (.bool false)], args := [d] }
  | _ => none }
def CharsTextsWrongFalsely : Prop := charsTextsRow.holds Tryd.pinned (OpenSpec.ofChange charsTextsWrong)

/-- 'parchmentlaw05.CharsWithin': WHATEVER THE INPUT: true; the input reads as it did. -/
def charsWithinSpec : ChangeSpec := { name := "charsWithin", fn := fun _ => fun
  | [d1, d2] => { results := [.lit (.bool true)], args := [d1, d2] }
  | _ => none }
def charsWithinRow : OpenClaim := { program := "ytfejbilnpceejaadoor", sum := "26da74c84f926bde39f6407103de661d0c3cdb23f79b7b1a0b9e46c57eead6af", func := "parchment/parchmentlaw05.CharsWithin", spec := "charsWithin", inPlace := ["internal/bytealg.IndexByteString", "internal/bytealg.IndexString"], named := ["parchment/chars.starts", "parchment/chars.others", "unicode/utf8.first", "unicode/utf8.acceptRanges", "internal/bytealg.MaxLen"], apart := false, laid := [("unicode/utf8.acceptRanges", laid_unicode_utf8_acceptRanges), ("parchment/chars.starts", laid_parchment_chars_starts), ("parchment/chars.others", laid_parchment_chars_others), ("unicode/utf8.first", laid_unicode_utf8_first)] }
def CharsWithinSaid : Prop := charsWithinRow.holds Tryd.pinned (OpenSpec.ofChange charsWithinSpec)

/-- ITS FALSE NEIGHBOUR: 'it returns false'. Refute it at one input. -/
def charsWithinWrong : ChangeSpec := { name := "charsWithin", fn := fun _ => fun
  | [d1, d2] => { results := [.lit (.bool false)], args := [d1, d2] }
  | _ => none }
def CharsWithinWrongFalsely : Prop := charsWithinRow.holds Tryd.pinned (OpenSpec.ofChange charsWithinWrong)

/-- 'parchmentlaw05.CharsJoined': WHATEVER THE INPUT: true; the input reads as it did. -/
def charsJoinedSpec : ChangeSpec := { name := "charsJoined", fn := fun _ => fun
  | [d1, d2] => { results := [.lit (.bool true)], args := [d1, d2] }
  | _ => none }
def charsJoinedRow : OpenClaim := { program := "ytfejbilnpceejaadoor", sum := "26da74c84f926bde39f6407103de661d0c3cdb23f79b7b1a0b9e46c57eead6af", func := "parchment/parchmentlaw05.CharsJoined", spec := "charsJoined", inPlace := ["internal/bytealg.IndexByteString", "internal/bytealg.IndexString"], named := ["parchment/chars.starts", "parchment/chars.others", "unicode/utf8.first", "unicode/utf8.acceptRanges", "internal/bytealg.MaxLen"], apart := false, laid := [("unicode/utf8.acceptRanges", laid_unicode_utf8_acceptRanges), ("parchment/chars.starts", laid_parchment_chars_starts), ("parchment/chars.others", laid_parchment_chars_others), ("unicode/utf8.first", laid_unicode_utf8_first)] }
def CharsJoinedSaid : Prop := charsJoinedRow.holds Tryd.pinned (OpenSpec.ofChange charsJoinedSpec)

/-- ITS FALSE NEIGHBOUR: 'it returns false'. Refute it at one input. -/
def charsJoinedWrong : ChangeSpec := { name := "charsJoined", fn := fun _ => fun
  | [d1, d2] => { results := [.lit (.bool false)], args := [d1, d2] }
  | _ => none }
def CharsJoinedWrongFalsely : Prop := charsJoinedRow.holds Tryd.pinned (OpenSpec.ofChange charsJoinedWrong)

/-- 'parchmentlaw05.CharsNumbers': WHATEVER THE INPUT: true; the input reads as it did. -/
def charsNumbersSpec : ChangeSpec := { name := "charsNumbers", fn := fun _ => fun
  | [] => { results := [.lit (.bool true)], args := [] }
  | _ => none }
def charsNumbersRow : OpenClaim := { program := "ytfejbilnpceejaadoor", sum := "26da74c84f926bde39f6407103de661d0c3cdb23f79b7b1a0b9e46c57eead6af", func := "parchment/parchmentlaw05.CharsNumbers", spec := "charsNumbers", inPlace := ["internal/bytealg.IndexByteString", "internal/bytealg.IndexString", "internal/abi.NoEscape", "internal/bytealg.MakeNoZero"], named := ["parchment/chars.starts", "parchment/chars.others", "unicode/utf8.first", "unicode/utf8.acceptRanges", "internal/bytealg.MaxLen"], apart := false, laid := [("unicode/utf8.acceptRanges", laid_unicode_utf8_acceptRanges), ("parchment/chars.starts", laid_parchment_chars_starts), ("parchment/chars.others", laid_parchment_chars_others), ("unicode/utf8.first", laid_unicode_utf8_first)] }
def CharsNumbersSaid : Prop := charsNumbersRow.holds Tryd.pinned (OpenSpec.ofChange charsNumbersSpec)

/-- ITS FALSE NEIGHBOUR: 'it returns false'. Refute it at one input. -/
def charsNumbersWrong : ChangeSpec := { name := "charsNumbers", fn := fun _ => fun
  | [] => { results := [.lit (.bool false)], args := [] }
  | _ => none }
def CharsNumbersWrongFalsely : Prop := charsNumbersRow.holds Tryd.pinned (OpenSpec.ofChange charsNumbersWrong)

/- THE SECOND FORM. 'bulk': how many values and letters a reading holds, each counted each time it is reached (what is shared counts as often as it is met; a slice's spare places count too). A statement '..UptoSaid' is the law's where the arguments, and the package variables that the reading takes, are together of bulk at most 1048576: NARROWER than '..Said'. Prove '..Said' where nothing that the law and all that it calls make is longer than what came in: it says more and counts as full. Else prove '..UptoSaid'. A law counts once. -/
mutual
def uptoBulk {H : Type} : DataW H → Nat
  | .lit (.string bytes) => bytes.length + 1
  | .lit _ => 1
  | .nil => 1
  | .ptr d => uptoBulk d + 1
  | .slice elems spare => uptoBulkAll elems + uptoBulkAll spare + 1
  | .agg parts => uptoBulkAll parts + 1
  | .iface _ d => uptoBulk d + 1
  | .map entries => uptoBulkEntries entries + 1
  | .held _ => 1
def uptoBulkAll {H : Type} : List (DataW H) → Nat
  | [] => 0
  | d :: r => uptoBulk d + uptoBulkAll r
def uptoBulkEntries {H : Type} : List (Lit × DataW H) → Nat
  | [] => 0
  | x :: r => uptoBulkEntry x + uptoBulkEntries r
def uptoBulkEntry {H : Type} : Lit × DataW H → Nat
  | (.string bytes, d) => bytes.length + uptoBulk d + 1
  | (_, d) => uptoBulk d + 1
 end
def uptoSmall : (H : Type) → List (DataW H) → Bool := fun _ ds => decide (uptoBulkAll ds ≤ 1048576)
def OpenSpec.upto (s : _root_.Go.ChangeSpec) : _root_.Go.OpenSpec := { _root_.Go.OpenSpec.ofChange s with cond := some uptoSmall }

/-- 'parchmentlaw05.CharsRunes', WHERE WHAT IT READS IS OF BULK AT MOST 1048576: true; the input reads as it did. -/
def charsRunesUptoRow : OpenClaim := { program := "ytfejbilnpceejaadoor", sum := "26da74c84f926bde39f6407103de661d0c3cdb23f79b7b1a0b9e46c57eead6af", func := "parchment/parchmentlaw05.CharsRunes", spec := "charsRunes", inPlace := ["internal/bytealg.IndexByteString", "internal/bytealg.IndexString"], named := ["parchment/chars.starts", "parchment/chars.others", "unicode/utf8.first", "unicode/utf8.acceptRanges", "internal/bytealg.MaxLen"], apart := false, laid := [("unicode/utf8.acceptRanges", laid_unicode_utf8_acceptRanges), ("parchment/chars.starts", laid_parchment_chars_starts), ("parchment/chars.others", laid_parchment_chars_others), ("unicode/utf8.first", laid_unicode_utf8_first)], narrowed := true }
def CharsRunesUptoSaid : Prop := charsRunesUptoRow.holds Tryd.pinned (OpenSpec.upto charsRunesSpec)

/-- 'parchmentlaw05.CharsTexts', WHERE WHAT IT READS IS OF BULK AT MOST 1048576: true; the input reads as it did. -/
def charsTextsUptoRow : OpenClaim := { program := "ytfejbilnpceejaadoor", sum := "26da74c84f926bde39f6407103de661d0c3cdb23f79b7b1a0b9e46c57eead6af", func := "parchment/parchmentlaw05.CharsTexts", spec := "charsTexts", inPlace := ["internal/bytealg.IndexByteString", "internal/bytealg.IndexString"], named := ["parchment/chars.starts", "parchment/chars.others", "unicode/utf8.first", "unicode/utf8.acceptRanges", "internal/bytealg.MaxLen"], apart := false, laid := [("unicode/utf8.acceptRanges", laid_unicode_utf8_acceptRanges), ("parchment/chars.starts", laid_parchment_chars_starts), ("parchment/chars.others", laid_parchment_chars_others), ("unicode/utf8.first", laid_unicode_utf8_first)], narrowed := true }
def CharsTextsUptoSaid : Prop := charsTextsUptoRow.holds Tryd.pinned (OpenSpec.upto charsTextsSpec)

/-- 'parchmentlaw05.CharsWithin', WHERE WHAT IT READS IS OF BULK AT MOST 1048576: true; the input reads as it did. -/
def charsWithinUptoRow : OpenClaim := { program := "ytfejbilnpceejaadoor", sum := "26da74c84f926bde39f6407103de661d0c3cdb23f79b7b1a0b9e46c57eead6af", func := "parchment/parchmentlaw05.CharsWithin", spec := "charsWithin", inPlace := ["internal/bytealg.IndexByteString", "internal/bytealg.IndexString"], named := ["parchment/chars.starts", "parchment/chars.others", "unicode/utf8.first", "unicode/utf8.acceptRanges", "internal/bytealg.MaxLen"], apart := false, laid := [("unicode/utf8.acceptRanges", laid_unicode_utf8_acceptRanges), ("parchment/chars.starts", laid_parchment_chars_starts), ("parchment/chars.others", laid_parchment_chars_others), ("unicode/utf8.first", laid_unicode_utf8_first)], narrowed := true }
def CharsWithinUptoSaid : Prop := charsWithinUptoRow.holds Tryd.pinned (OpenSpec.upto charsWithinSpec)

/-- 'parchmentlaw05.CharsJoined', WHERE WHAT IT READS IS OF BULK AT MOST 1048576: true; the input reads as it did. -/
def charsJoinedUptoRow : OpenClaim := { program := "ytfejbilnpceejaadoor", sum := "26da74c84f926bde39f6407103de661d0c3cdb23f79b7b1a0b9e46c57eead6af", func := "parchment/parchmentlaw05.CharsJoined", spec := "charsJoined", inPlace := ["internal/bytealg.IndexByteString", "internal/bytealg.IndexString"], named := ["parchment/chars.starts", "parchment/chars.others", "unicode/utf8.first", "unicode/utf8.acceptRanges", "internal/bytealg.MaxLen"], apart := false, laid := [("unicode/utf8.acceptRanges", laid_unicode_utf8_acceptRanges), ("parchment/chars.starts", laid_parchment_chars_starts), ("parchment/chars.others", laid_parchment_chars_others), ("unicode/utf8.first", laid_unicode_utf8_first)], narrowed := true }
def CharsJoinedUptoSaid : Prop := charsJoinedUptoRow.holds Tryd.pinned (OpenSpec.upto charsJoinedSpec)

/-- 'parchmentlaw05.CharsNumbers', WHERE WHAT IT READS IS OF BULK AT MOST 1048576: true; the input reads as it did. -/
def charsNumbersUptoRow : OpenClaim := { program := "ytfejbilnpceejaadoor", sum := "26da74c84f926bde39f6407103de661d0c3cdb23f79b7b1a0b9e46c57eead6af", func := "parchment/parchmentlaw05.CharsNumbers", spec := "charsNumbers", inPlace := ["internal/bytealg.IndexByteString", "internal/bytealg.IndexString", "internal/abi.NoEscape", "internal/bytealg.MakeNoZero"], named := ["parchment/chars.starts", "parchment/chars.others", "unicode/utf8.first", "unicode/utf8.acceptRanges", "internal/bytealg.MaxLen"], apart := false, laid := [("unicode/utf8.acceptRanges", laid_unicode_utf8_acceptRanges), ("parchment/chars.starts", laid_parchment_chars_starts), ("parchment/chars.others", laid_parchment_chars_others), ("unicode/utf8.first", laid_unicode_utf8_first)], narrowed := true }
def CharsNumbersUptoSaid : Prop := charsNumbersUptoRow.holds Tryd.pinned (OpenSpec.upto charsNumbersSpec)

end Rows
end Go.Proofs.YtfejbilnpceejaaDoor
