/- The walks over the functions of characters: what each computes of a number, whatever the world. -/
import Derived.Test.YtlemdhfekdiaeaaGreatDoorChecked
import Derived.Test.YtlemdhfekdiaeaaGreatDoorCharsPlain
import Derived.WalkKit
import Derived.Handy
import Derived.Lib.Hide
namespace Go.Proofs.YtlemdhfekdiaeaaGreatDoor.Wch
open Go Go.RowKit

theorem ret_bool {a b : Bool} (h : a = b) : Ending.returned (.bool a) = .returned (.bool b) := by rw [h]
theorem refWithin_any (r a b : Int) (w : World) : Calls Tryz.prog 121 #[.int .i32 r, .int .i32 a, .int .i32 b] w fun e w' => e = .returned (.bool (decide (a ≤ r ∧ r ≤ b))) ∧ w = w' := by
  go_enter Tryz.func121, Tryz.ntmps121
  go_wp2
  all_goals
    go_ret
    refine ⟨ret_bool ?_, rfl⟩
    rw [Bool.eq_iff_iff]
    simp only [decide_eq_true_eq, Bool.and_eq_true, false_iff, Bool.false_eq_true] at *
    try omega
theorem char_any (r : Int) (w : World) : Calls Tryz.prog 70 #[.int .i32 r] w fun e w' => e = .returned (.bool (Pch.charB r)) ∧ w = w' := by
  go_enter Tryz.func70, Tryz.ntmps70
  go_wp2
  all_goals
    go_ret
    refine ⟨ret_bool ?_, rfl⟩
    rw [Bool.eq_iff_iff, Pch.charB_iff]
    simp only [Bool.and_eq_true, beq_iff_eq, bne_iff_ne, beq_eq_false_iff_ne, ne_eq, true_iff, false_iff, Bool.false_eq_true] at *
    omega
theorem refChar_any (r : Int) (w : World) : Calls Tryz.prog 85 #[.int .i32 r] w fun e w' => e = .returned (.bool (Pch.charB r)) ∧ w = w' := by
  go_enter Tryz.func85, Tryz.ntmps85
  go_wp2_with (go_at_call 121; refine (refWithin_any _ _ _ _).mono ?_; rintro e w' ⟨rfl, rfl⟩)
  all_goals
    go_ret
    refine ⟨ret_bool ?_, rfl⟩
    rw [Bool.eq_iff_iff, Pch.charB_iff]
    simp only [decide_eq_true_eq, Bool.and_eq_true, Bool.or_eq_true, beq_iff_eq, true_iff] at *
    omega
theorem refStart_any (r : Int) (w : World) : Calls Tryz.prog 122 #[.int .i32 r] w fun e w' => e = .returned (.bool (Pch.startB r)) ∧ w = w' := by
  go_enter Tryz.func122, Tryz.ntmps122
  go_wp2_with (go_at_call 121; refine (refWithin_any _ _ _ _).mono ?_; rintro e w' ⟨rfl, rfl⟩)
  all_goals
    go_ret
    refine ⟨ret_bool ?_, rfl⟩
    rw [Bool.eq_iff_iff, Pch.startB_iff]
    simp only [decide_eq_true_eq, Bool.and_eq_true, Bool.or_eq_true, beq_iff_eq, beq_eq_false_iff_ne, ne_eq, true_iff] at *
    omega
theorem refName_any (r : Int) (w : World) : Calls Tryz.prog 123 #[.int .i32 r] w fun e w' => e = .returned (.bool (Pch.nameB r)) ∧ w = w' := by
  have e0 : (Pch.nameB r = true) = (Pch.startB r = true ∨ Pch.inT Pch.otherT r = true) := propext (Pch.nameB_iff r)
  have H0 := Lib.hid e0
  clear e0
  generalize hs : Pch.startB r = S at H0
  have cs : Calls Tryz.prog 122 #[.int .i32 r] w fun e w' => e = .returned (.bool S) ∧ w = w' := hs ▸ refStart_any r w
  have CS := Lib.hid cs
  clear cs hs
  cases S
  all_goals
    go_enter Tryz.func123, Tryz.ntmps123
    go_wp2_with (first | (go_at_call 121; refine (refWithin_any _ _ _ _).mono ?_; rintro e w' ⟨rfl, rfl⟩) | (go_at_call 122; refine CS.out.mono ?_; rintro e w' ⟨rfl, rfl⟩))
    all_goals
      go_ret
      refine ⟨ret_bool ?_, rfl⟩
      rw [Bool.eq_iff_iff, H0.out, Pch.otherB_iff]
      simp at * <;> omega
end Go.Proofs.YtlemdhfekdiaeaaGreatDoor.Wch
