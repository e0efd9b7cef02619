/- The walks over the kit's marks. -/
import Derived.Test.YtmdbjoebcolcfaaGreatDoorFlatKit
import Derived.Test.YtmdbjoebcolcfaaGreatDoorKitBytes
import Derived.Laws.StructEq
namespace Go.Proofs.YtmdbjoebcolcfaaGreatDoor.Flt
open Go Go.RowKit Go.Proofs.YtmdbjoebcolcfaaGreatDoor.Kb

def mkI (k i : Int) : Int := 1000003 * (k + 7) + i
theorem ret_i {a b : Int} (h : a = b) : Ending.returned (.int .i64 a) = .returned (.int .i64 b) := by rw [h]
theorem mark_any (k i : Int) (w : World) (hk0 : 0 ≤ k) (hk : k ≤ 1000) (hi0 : 0 ≤ i) (hi : i ≤ 1000000) :
    Calls Tryz.prog 116 #[.int .i64 k, .int .i64 i] w fun e w' => e = .returned (.int .i64 (mkI k i)) ∧ w = w' := by
  go_enter Tryz.func116, Tryz.ntmps116
  go_wp2
  go_ret
  exact ⟨ret_i (by unfold mkI; omega), rfl⟩
/-- a comparison of two structs that is an operation of a region -/
theorem exec_eql {P : Program} {ρ : Operand → Value} {o : Oper} (t : TypeId) (x y : Operand) (r : TypeId) (h : o.op = .binOp .eql t x y r) (xs ys : Array Value) (v : Value) (w : World) (hx : ρ x = .agg xs) (hy : ρ y = .agg ys)
    (hm : P.eqGuardType P.depth t = false) (hb : (binOp .eql t (.agg xs) (.agg ys)).run P w = .ok v w) : (execOp ρ o).run P w = .ok (.value v) w := by
  unfold execOp
  rw [h]
  simp only [hx, hy, Sem.run_bind, run_eqGuard_agg w .eql t x y xs ys hm, Result.andThen_ok, hb, Sem.run_pure]
end Go.Proofs.YtmdbjoebcolcfaaGreatDoor.Flt
