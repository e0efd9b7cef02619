/- The walk over awake: the chapter's examples. -/
import Derived.Test.YtokphfpjgmmklaaDoorKeyWhole
namespace Go.Proofs.YtokphfpjgmmklaaDoor.Wk
open Go Go.RowKit Go.Proofs.YtokphfpjgmmklaaDoor.Kb

/-- a slice that reads as these bytes, new memory alone -/
def Slice (w : World) (l : List UInt8) (e : Ending) (w' : World) : Prop :=
  ∃ A c, e = .returned (.slice A l.length c) ∧ Rd w' A l ∧ Below w.heap.size w w'
theorem slice_of_made {w w' : World} {l : List UInt8} {e : Ending} (h : Made w l e w') : Slice w l e w' := by
  obtain ⟨v, rfl, hown, hb⟩ := h
  obtain ⟨A, c, rfl, _⟩ := own_shape hown
  exact ⟨A, c, rfl, rd_of_own hown, hb⟩
theorem rd_new (w : World) (l : List UInt8) : Rd (w.alloc (.cells (bc l).toArray 5)) (some ⟨w.heap.size, 0, none⟩) l := by
  intro _
  refine ⟨w.heap.size, 0, rfl, fun j x hx => ?_⟩
  rw [Nat.zero_add, World.cell?_alloc_new]
  simp [bc, hx]
/-- what GetBytes hands back, as slices -/
def Got' (w : World) (ans : Option (List UInt8 × Nat)) (e : Ending) (w' : World) : Prop :=
  ∃ A c, e = .returned (.tuple #[.slice A ((ans.map (·.1)).getD []).length c, .int .i64 ((ans.map (·.2)).getD 0 : Nat), .bool ans.isSome]) ∧ Rd w' A ((ans.map (·.1)).getD []) ∧ Below w.heap.size w w'
theorem got_shape {w w' : World} {ans : Option (List UInt8 × Nat)} {e : Ending} (h : Got w ans e w') : Got' w ans e w' := by
  cases ans with
  | none => exact ⟨none, 0, h.1, fun h => absurd rfl h, h.2⟩
  | some x =>
    obtain ⟨v, rfl, hown, hb⟩ := h
    obtain ⟨A, c, rfl, _⟩ := own_shape hown
    exact ⟨A, c, rfl, rd_of_own hown, hb⟩
theorem k_get (w : World) : Calls Tryd.prog 16 #[.slice (some ⟨w.heap.size, 0, none⟩) 3 3] (w.alloc (.cells #[.int .u8 0, .int .u8 0, .int .u8 7] 5)) fun e w' => ∃ A c, e = .returned (.tuple #[.slice A 0 c, .int .i64 2, .bool true]) ∧ Below w.heap.size w w' := by
  have h := getBytes_any (some ⟨w.heap.size, 0, none⟩) [0, 0, 7] 3 _ (rd_new w [0, 0, 7]) (by decide)
  rw [show Pk.getL [0, 0, 7] = some ([], 2) from rfl] at h
  refine h.mono fun e w' hg => ?_
  obtain ⟨A, c, he, _, hb⟩ := got_shape hg
  exact ⟨A, c, he, ((Below.refl _ _).alloc (Nat.le_refl _) _).trans (hb.mono (by simp))⟩
theorem k_whole (w : World) (ht : Env w) : Calls Tryd.prog 20 #[.string ⟨#[45, 53]⟩] w fun e w' => e = .returned (.tuple #[.int .i64 (-5), .bool true]) ∧ Below w.heap.size w w' := by
  have h := whole_any ⟨#[45, 53]⟩ w (by decide) ht
  rw [show wholeN [45, 53] = -5 by decide +kernel, show wholeB [45, 53] = true by decide +kernel] at h
  exact h
theorem k_int (w : World) : Calls Tryd.prog 11 #[.slice (some ⟨w.heap.size, 0, none⟩) 9 9] (w.alloc (.cells #[.int .u8 128, .int .u8 0, .int .u8 0, .int .u8 0, .int .u8 0, .int .u8 0, .int .u8 0, .int .u8 2, .int .u8 9] 5)) fun e w' => e = .returned (.tuple #[.int .i64 2, .int .i64 8, .bool true]) ∧ Below w.heap.size w w' := by
  have h := getInt_any (some ⟨w.heap.size, 0, none⟩) [128, 0, 0, 0, 0, 0, 0, 2, 9] 9 _ (rd_new w [128, 0, 0, 0, 0, 0, 0, 2, 9]) (by decide)
  rw [show getI [128, 0, 0, 0, 0, 0, 0, 2, 9] = (2, 8) by decide +kernel] at h
  exact h.mono fun e w' ⟨he, hb⟩ => ⟨he, ((Below.refl _ _).alloc (Nat.le_refl _) _).trans (hb.mono (by simp))⟩
theorem k_put (w : World) : Calls Tryd.prog 14 #[.int .i64 (-1)] w fun e w' => ∃ A c, e = .returned (.slice A 8 c) ∧ Rd w' A [127, 255, 255, 255, 255, 255, 255, 255] ∧ Below w.heap.size w w' := by
  have h := putInt_any (-1) w (by decide) (by decide)
  rw [show Pk.putInt (-1) = [127, 255, 255, 255, 255, 255, 255, 255] by decide +kernel] at h
  exact h.mono fun e w' hm => slice_of_made hm
theorem k_row (w : World) : Calls Tryd.prog 18 #[.slice (some ⟨w.heap.size, 0, none⟩) 3 3] (w.alloc (.cells #[.int .u8 1, .int .u8 0, .int .u8 2] 5)) fun e w' => ∃ A c, e = .returned (.slice A 6 c) ∧ Rd w' A [1, 0, 255, 2, 0, 0] ∧ Below w.heap.size w w' := by
  have h := putBytes_any (some ⟨w.heap.size, 0, none⟩) [1, 0, 2] 3 _ (rd_new w [1, 0, 2]) (by decide)
  rw [show Pk.putL [1, 0, 2] = [1, 0, 255, 2, 0, 0] by decide +kernel] at h
  refine h.mono fun e w' hm => ?_
  obtain ⟨A, c, he, hr, hb⟩ := slice_of_made hm
  exact ⟨A, c, he, hr, ((Below.refl _ _).alloc (Nat.le_refl _) _).trans (hb.mono (by simp))⟩
theorem k_same (A : Option Addr) (l : List UInt8) (c : Nat) (w : World) (hr : Rd w A l) (hl : l.length ≤ 140737488355328) : Calls Tryd.prog 13 #[.slice A l.length c, .slice (some ⟨w.heap.size, 0, none⟩) l.length l.length] (w.alloc (.cells (bc l).toArray 5)) fun e w' => e = .returned (.bool true) ∧ Below w.heap.size w w' := by
  have h := same_any A (some ⟨w.heap.size, 0, none⟩) l l c l.length _ (hr.below ((Below.refl _ _).alloc (Nat.le_refl _) (.cells (bc l).toArray 5))) (rd_new w l) hl
  rw [decide_eq_true rfl] at h
  exact h.mono fun e w' ⟨he, hb⟩ => ⟨he, ((Below.refl _ _).alloc (Nat.le_refl _) _).trans (hb.mono (by simp))⟩
set_option maxRecDepth 100000 in
set_option maxHeartbeats 2000000 in
theorem awake_any (w : World) (ht : Env w) : Calls Tryd.prog 10 #[] w fun e w' => e = .returned (.bool true) ∧ Below w.heap.size w w' := by
  have HT := Kept.mk ht
  clear ht
  go_enter Tryd.func10, Tryd.ntmps10
  go_wp2_with (fail)
  refine (k_get w).mono ?_; rintro e w1 ⟨A1, c1, rfl, hb1⟩
  go_wp2_with (fail)
  refine (k_whole w1 (HT.out.below hb1)).mono ?_; rintro e w2 ⟨rfl, hb2⟩
  have g2 := hb1.trans (hb2.mono hb1.size)
  clear hb1 hb2
  go_wp2_with (fail)
  refine (k_int w2).mono ?_; rintro e w3 ⟨rfl, hb3⟩
  have g3 := g2.trans (hb3.mono g2.size)
  clear g2 hb3
  go_wp2_with (fail)
  refine (k_put w3).mono ?_; rintro e w4 ⟨A4, c4, rfl, hr4, hb4⟩
  have g4 := g3.trans (hb4.mono g3.size)
  have R4 := Kept.mk hr4
  clear g3 hb4 hr4
  go_wp2_with (fail)
  refine (k_same A4 [127, 255, 255, 255, 255, 255, 255, 255] c4 w4 R4.out (by decide)).mono ?_; rintro e w5 ⟨rfl, hb5⟩
  have g5 := g4.trans (hb5.mono g4.size)
  clear g4 hb5
  go_wp2_with (fail)
  refine (k_row w5).mono ?_; rintro e w6 ⟨A6, c6, rfl, hr6, hb6⟩
  have g6 := g5.trans (hb6.mono g5.size)
  have R6 := Kept.mk hr6
  clear g5 hb6 hr6
  go_wp2_with (fail)
  refine (k_same A6 [1, 0, 255, 2, 0, 0] c6 w6 R6.out (by decide)).mono ?_; rintro e w7 ⟨rfl, hb7⟩
  have g7 := g6.trans (hb7.mono g6.size)
  clear g6 hb7
  go_wp2_with (fail)
  go_ret
  exact ⟨rfl, g7⟩
end Go.Proofs.YtokphfpjgmmklaaDoor.Wk
