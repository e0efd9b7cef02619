/- The walk over awake: the chapter's examples. -/
import Derived.Test.YtfejbilnpceejaaDoorCharsWalksF
namespace Go.Proofs.YtfejbilnpceejaaDoor.Wch
open Go Go.RowKit

theorem k0 (w : World) : Calls Tryd.prog 8 #[.int .i32 97] w fun e w' => e = .returned (.bool true) ∧ w = w' := by
  have h := char_any 97 w
  rw [show Pch.charB 97 = true by decide +kernel] at h
  exact h
theorem k1 (w : World) : Calls Tryd.prog 8 #[.int .i32 0] w fun e w' => e = .returned (.bool false) ∧ w = w' := by
  have h := char_any 0 w
  rw [show Pch.charB 0 = false by decide +kernel] at h
  exact h
theorem k2 (w : World) (ht : Env w) : Calls Tryd.prog 10 #[.int .i32 95] w fun e w' => e = .returned (.bool true) ∧ Below w.heap.size w w' := by
  have h := start_any 95 w ht.1
  rw [show Pch.startB 95 = true by decide +kernel] at h
  exact h
theorem k3 (w : World) (ht : Env w) : Calls Tryd.prog 10 #[.int .i32 49] w fun e w' => e = .returned (.bool false) ∧ Below w.heap.size w w' := by
  have h := start_any 49 w ht.1
  rw [show Pch.startB 49 = false by decide +kernel] at h
  exact h
theorem k4 (w : World) (ht : Env w) : Calls Tryd.prog 12 #[.int .i32 49] w fun e w' => e = .returned (.bool true) ∧ Below w.heap.size w w' := by
  have h := name_any 49 w ht.1
  rw [show Pch.nameB 49 = true by decide +kernel] at h
  exact h
theorem k5 (w : World) (ht : Env w) : Calls Tryd.prog 12 #[.int .i32 58] w fun e w' => e = .returned (.bool false) ∧ Below w.heap.size w w' := by
  have h := name_any 58 w ht.1
  rw [show Pch.nameB 58 = false by decide +kernel] at h
  exact h
theorem k6 (w : World) (ht : Env w) : Calls Tryd.prog 15 #[.string ⟨#[120, 45, 121, 46, 122]⟩] w fun e w' => e = .returned (.bool true) ∧ Below w.heap.size w w' := by
  have h := nametext_any ⟨#[120, 45, 121, 46, 122]⟩ w (by decide) ht
  rw [show Pch.nameL [120, 45, 121, 46, 122] = true by decide +kernel] at h
  exact h
theorem k7 (w : World) (ht : Env w) : Calls Tryd.prog 15 #[.string ⟨#[]⟩] w fun e w' => e = .returned (.bool false) ∧ Below w.heap.size w w' := by
  have h := nametext_any ⟨#[]⟩ w (by decide) ht
  rw [show Pch.nameL [] = false by decide +kernel] at h
  exact h
theorem k8 (w : World) (ht : Env w) : Calls Tryd.prog 17 #[.string ⟨#[]⟩] w fun e w' => e = .returned (.bool true) ∧ Below w.heap.size w w' := by
  have h := texts_any ⟨#[]⟩ w (by decide) ht
  rw [show Pch.textsL [] = true by decide +kernel] at h
  exact h
theorem k9 (w : World) (ht : Env w) : Calls Tryd.prog 17 #[.string ⟨#[255]⟩] w fun e w' => e = .returned (.bool false) ∧ Below w.heap.size w w' := by
  have h := texts_any ⟨#[255]⟩ w (by decide) ht
  rw [show Pch.textsL [255] = false by decide +kernel] at h
  exact h
theorem k10 (w : World) : Calls Tryd.prog 19 #[.string ⟨#[9, 32, 10]⟩] w fun e w' => e = .returned (.bool true) ∧ Below w.heap.size w w' := by
  have h := blank_any ⟨#[9, 32, 10]⟩ w (by decide)
  rw [show Pch.blankL [9, 32, 10] = true by decide +kernel] at h
  exact h
theorem k11 (w : World) : Calls Tryd.prog 19 #[.string ⟨#[97]⟩] w fun e w' => e = .returned (.bool false) ∧ Below w.heap.size w w' := by
  have h := blank_any ⟨#[97]⟩ w (by decide)
  rw [show Pch.blankL [97] = false by decide +kernel] at h
  exact h
theorem awake_any (w : World) (ht : Env w) : Calls Tryd.prog 14 #[] w fun e w' => e = .returned (.bool true) ∧ Below w.heap.size w w' := by
  have H0 := Lib.hid ht
  clear ht
  go_enter Tryd.func14, Tryd.ntmps14
  go_wp2_with (fail)
  refine (k0 _).mono ?_; rintro e w' ⟨rfl, rfl⟩
  go_wp2_with (fail)
  refine (k1 _).mono ?_; rintro e w' ⟨rfl, rfl⟩
  go_wp2_with (fail)
  refine (k2 _ H0.out).mono ?_; rintro e w2 ⟨rfl, hb2⟩
  have g2 : Below w.heap.size w w2 := hb2
  have H1 : Hid (Env w2) := H0.out.below hb2
  go_wp2_with (fail)
  refine (k3 _ H1.out).mono ?_; rintro e w3 ⟨rfl, hb3⟩
  have g3 : Below w.heap.size w w3 := g2.trans (hb3.mono g2.size)
  have H2 : Hid (Env w3) := H1.out.below hb3
  go_wp2_with (fail)
  refine (k4 _ H2.out).mono ?_; rintro e w4 ⟨rfl, hb4⟩
  have g4 : Below w.heap.size w w4 := g3.trans (hb4.mono g3.size)
  have H3 : Hid (Env w4) := H2.out.below hb4
  go_wp2_with (fail)
  refine (k5 _ H3.out).mono ?_; rintro e w5 ⟨rfl, hb5⟩
  have g5 : Below w.heap.size w w5 := g4.trans (hb5.mono g4.size)
  have H4 : Hid (Env w5) := H3.out.below hb5
  go_wp2_with (fail)
  refine (k6 _ H4.out).mono ?_; rintro e w6 ⟨rfl, hb6⟩
  have g6 : Below w.heap.size w w6 := g5.trans (hb6.mono g5.size)
  have H5 : Hid (Env w6) := H4.out.below hb6
  go_wp2_with (fail)
  refine (k7 _ H5.out).mono ?_; rintro e w7 ⟨rfl, hb7⟩
  have g7 : Below w.heap.size w w7 := g6.trans (hb7.mono g6.size)
  have H6 : Hid (Env w7) := H5.out.below hb7
  go_wp2_with (fail)
  refine (k8 _ H6.out).mono ?_; rintro e w8 ⟨rfl, hb8⟩
  have g8 : Below w.heap.size w w8 := g7.trans (hb8.mono g7.size)
  have H7 : Hid (Env w8) := H6.out.below hb8
  go_wp2_with (fail)
  refine (k9 _ H7.out).mono ?_; rintro e w9 ⟨rfl, hb9⟩
  have g9 : Below w.heap.size w w9 := g8.trans (hb9.mono g8.size)
  have H8 : Hid (Env w9) := H7.out.below hb9
  go_wp2_with (fail)
  refine (k10 _).mono ?_; rintro e w10 ⟨rfl, hb10⟩
  have g10 : Below w.heap.size w w10 := g9.trans (hb10.mono g9.size)
  have H9 : Hid (Env w10) := H8.out.below hb10
  go_wp2_with (fail)
  refine (k11 _).mono ?_; rintro e w11 ⟨rfl, hb11⟩
  have g11 : Below w.heap.size w w11 := g10.trans (hb11.mono g10.size)
  have H10 : Hid (Env w11) := H9.out.below hb11
  go_wp2_with (fail)
  go_ret
  exact ⟨rfl, g11⟩
end Go.Proofs.YtfejbilnpceejaaDoor.Wch
