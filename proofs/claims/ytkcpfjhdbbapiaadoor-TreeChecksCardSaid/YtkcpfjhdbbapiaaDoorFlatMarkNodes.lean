/- The walk over the kit's markNode; two nodes are compared. -/
import Derived.Test.YtkcpfjhdbbapiaaDoorFlatMark
import Derived.Test.YtkcpfjhdbbapiaaDoorNodeKit
import Derived.Lib.SmallJoins
import Derived.WalkSmall
import Derived.Laws.StructEq
namespace Go.Proofs.YtkcpfjhdbbapiaaDoor.Flt
open Go Go.RowKit Go.Proofs.YtkcpfjhdbbapiaaDoor.Kb

theorem markNodes_any (k i : Int) (w : World) (hk0 : 0 ≤ k) (hk : k ≤ 1000) (hi0 : 0 ≤ i) (hi : i ≤ 1000000) :
    Calls Tryd.prog 23 #[.int .i64 k, .int .i64 i] w fun e w' => e = .returned (.agg #[.int .u8 0, .string ⟨#[]⟩, .string ⟨#[]⟩, .int .i64 (mkI k i)]) ∧ Below w.heap.size w w' := by
  go_enter Tryd.func23, Tryd.ntmps23
  go_wp2_with (fail)
  refine (mark_any _ _ _ hk0 hk hi0 hi).mono ?_; rintro e w' ⟨rfl, rfl⟩
  go_wp2_with (fail)
  refine bodyPost_ret (v := .agg #[.int .u8 0, .string ⟨#[]⟩, .string ⟨#[]⟩, .int .i64 (mkI k i)]) (by simp [results, Tryd.results23, go_sem]) rfl ⟨rfl, ?_⟩
  exact (Below.refl _ _).alloc (Nat.le_refl _) _
theorem eqgM_Nodes : Tryd.prog.eqGuardType Tryd.prog.depth 32 = false := by kernel_rfl
/-- two nodes are alike -/
theorem eql_node (k : Int) (s t : ByteArray) (p : Int) (w : World) : (binOp .eql 32 (.agg #[.int .u8 k, .string s, .string t, .int .i64 p]) (.agg #[.int .u8 k, .string s, .string t, .int .i64 p])).run Tryd.prog w = .ok (.bool true) w := by
  have u0 := Tryd.underlying30
  have u1 := Tryd.underlying9
  have u3 := Tryd.underlying3
  have a0 := Tryd.isAgg30
  have a1 := Tryd.isAgg9
  have a3 := Tryd.isAgg3
  have hS : Tryd.prog.underlying 32 = some (.struct (Tryd.prog.fieldsOf 32)) := by kernel_rfl
  rw [run_eql_struct, show (10000 : Nat) = 9999 + 1 from rfl, run_equalIn_agg w 9999 32 _ _ hS (by kernel_rfl)]
  simp only [Program.fieldsOf, Tryd.underlying32]
  go_simp
  try simp
end Go.Proofs.YtkcpfjhdbbapiaaDoor.Flt
