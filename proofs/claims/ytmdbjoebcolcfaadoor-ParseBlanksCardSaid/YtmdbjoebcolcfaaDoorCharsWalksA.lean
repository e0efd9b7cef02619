/- The walks over the functions of characters: what each computes of a number, whatever the world. -/
import Derived.Test.YtmdbjoebcolcfaaDoorChecked
import Derived.Test.YtmdbjoebcolcfaaDoorCharsPlain
import Derived.WalkKit
import Derived.Handy
import Derived.Lib.Hide
namespace Go.Proofs.YtmdbjoebcolcfaaDoor.Wch
open Go Go.RowKit

theorem ret_bool {a b : Bool} (h : a = b) : Ending.returned (.bool a) = .returned (.bool b) := by rw [h]
theorem char_any (r : Int) (w : World) : Calls Tryd.prog 28 #[.int .i32 r] w fun e w' => e = .returned (.bool (Pch.charB r)) ∧ w = w' := by
  go_enter Tryd.func28, Tryd.ntmps28
  go_wp2
  all_goals
    go_ret
    refine ⟨ret_bool ?_, rfl⟩
    rw [Bool.eq_iff_iff, Pch.charB_iff]
    simp only [Bool.and_eq_true, beq_iff_eq, bne_iff_ne, beq_eq_false_iff_ne, ne_eq, true_iff, false_iff, Bool.false_eq_true] at *
    omega
end Go.Proofs.YtmdbjoebcolcfaaDoor.Wch
