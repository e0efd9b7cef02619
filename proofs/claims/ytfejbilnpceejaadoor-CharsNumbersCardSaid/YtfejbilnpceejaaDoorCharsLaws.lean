/- The walks over the laws of chapter 5. -/
import Derived.Test.YtfejbilnpceejaaDoorCharsWalksG
namespace Go.Proofs.YtfejbilnpceejaaDoor.Wch
open Go Go.RowKit

theorem law_runes (r : Int) (w : World) (ht : Env w) : Calls Tryd.prog 3 #[.int .i32 r] w fun e w' => e = .returned (.bool true) ∧ Below w.heap.size w w' := by
  have H0 := Lib.hid ht
  clear ht
  have c1 := fun wx => char_any r wx
  have c2 := fun wx => refChar_any r wx
  have c3 := fun wx (hx : Tabs wx) => start_any r wx hx
  have c4 := fun wx => refStart_any r wx
  have c5 := fun wx (hx : Tabs wx) => name_any r wx hx
  have c6 := fun wx => refName_any r wx
  generalize Pch.charB r = A at c1 c2
  generalize Pch.startB r = B at c3 c4
  generalize Pch.nameB r = C at c5 c6
  have C1 := Lib.hid c1
  have C2 := Lib.hid c2
  have C3 := Lib.hid c3
  have C4 := Lib.hid c4
  have C5 := Lib.hid c5
  have C6 := Lib.hid c6
  clear c1 c2 c3 c4 c5 c6
  go_enter Tryd.func3, Tryd.ntmps3
  go_wp2_with (fail)
  refine (C1.out _).mono ?_; rintro e w' ⟨rfl, rfl⟩
  go_wp2_with (fail)
  refine (C2.out _).mono ?_; rintro e w' ⟨rfl, rfl⟩
  go_wp2_with (fail)
  refine (C3.out _ H0.out.1).mono ?_; rintro e w1 ⟨rfl, hb1⟩
  have H1 : Hid (Env w1) := H0.out.below hb1
  go_wp2_with (fail)
  refine (C4.out _).mono ?_; rintro e w' ⟨rfl, rfl⟩
  go_wp2_with (fail)
  refine (C5.out _ H1.out.1).mono ?_; rintro e w2 ⟨rfl, hb2⟩
  have H2 : Hid (Env w2) := H1.out.below hb2
  have g2 := hb1.trans (hb2.mono hb1.size)
  go_wp2_with (fail)
  refine (C6.out _).mono ?_; rintro e w' ⟨rfl, rfl⟩
  go_wp2_with (fail)
  refine (awake_any _ H2.out).mono ?_; rintro e w3 ⟨rfl, hb3⟩
  have g3 := g2.trans (hb3.mono g2.size)
  go_wp2_with (fail)
  go_ret
  exact ⟨rfl, g3⟩
theorem law_texts (s : ByteArray) (w : World) (ht : Env w) : Calls Tryd.prog 4 #[.string s] w fun e w' => e = .returned (.bool true) ∧ Below w.heap.size w w' := by
  have H0 := Lib.hid ht
  clear ht
  by_cases hl : 100000 < s.size
  · go_enter Tryd.func4, Tryd.ntmps4
    go_wp2_with (fail)
    · refine (awake_any _ H0.out).mono ?_; rintro e w3 ⟨rfl, hb3⟩
      go_wp2_with (fail)
      go_ret
      exact ⟨rfl, hb3⟩
  have c1 := fun wx hx => nametext_any s wx (by omega) hx
  have c2 := fun wx => refNametext_any s wx (by omega)
  have c3 := fun wx hx => texts_any s wx (by omega) hx
  have c4 := fun wx => refTexts_any s wx (by omega)
  have c5 := fun wx => blank_any s wx (by omega)
  have c6 := fun wx => refBlank_any s wx (by omega)
  generalize Pch.nameL s.data.toList = A at c1 c2
  generalize Pch.textsL s.data.toList = B at c3 c4
  generalize Pch.blankL s.data.toList = C at c5 c6
  have C1 := Lib.hid c1
  have C2 := Lib.hid c2
  have C3 := Lib.hid c3
  have C4 := Lib.hid c4
  have C5 := Lib.hid c5
  have C6 := Lib.hid c6
  clear c1 c2 c3 c4 c5 c6
  go_enter Tryd.func4, Tryd.ntmps4
  go_wp2_with (fail)
  refine (C1.out _ H0.out).mono ?_; rintro e w1 ⟨rfl, hb1⟩
  have H1 : Hid (Env w1) := H0.out.below hb1
  go_wp2_with (fail)
  refine (C2.out _).mono ?_; rintro e w' ⟨rfl, rfl⟩
  go_wp2_with (fail)
  refine (C3.out _ H1.out).mono ?_; rintro e w2 ⟨rfl, hb2⟩
  have H2 : Hid (Env w2) := H1.out.below hb2
  have g2 := hb1.trans (hb2.mono hb1.size)
  go_wp2_with (fail)
  refine (C4.out _).mono ?_; rintro e w' ⟨rfl, rfl⟩
  go_wp2_with (fail)
  refine (C5.out _).mono ?_; rintro e w3 ⟨rfl, hb3⟩
  have H3 : Hid (Env w3) := H2.out.below hb3
  have g3 := g2.trans (hb3.mono g2.size)
  go_wp2_with (fail)
  refine (C6.out _).mono ?_; rintro e w' ⟨rfl, rfl⟩
  go_wp2_with (fail)
  refine (awake_any _ H3.out).mono ?_; rintro e w4 ⟨rfl, hb4⟩
  have g4 := g3.trans (hb4.mono g3.size)
  go_wp2_with (fail)
  go_ret
  exact ⟨rfl, g4⟩
end Go.Proofs.YtfejbilnpceejaaDoor.Wch
