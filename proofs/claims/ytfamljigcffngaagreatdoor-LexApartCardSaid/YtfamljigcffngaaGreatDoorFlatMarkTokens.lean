/- The walk over the kit's markToken; two marks are compared. -/
import Derived.Test.YtfamljigcffngaaGreatDoorFlatMark
import Derived.Lib.SmallJoins
import Derived.WalkSmall
import Derived.Laws.StructEq
namespace Go.Proofs.YtfamljigcffngaaGreatDoor.Flt
open Go Go.RowKit Go.Proofs.YtfamljigcffngaaGreatDoor.Kb

theorem markTokens_any (k i : Int) (w : World) (hk0 : 0 ≤ k) (hk : k ≤ 1000) (hi0 : 0 ≤ i) (hi : i ≤ 1000000) :
    Calls Tryz.prog 92 #[.int .i64 k, .int .i64 i] w fun e w' => e = .returned (.agg #[.int .u8 0, .string ⟨#[]⟩, .int .i64 0, .int .i64 (mkI k i)]) ∧ Below w.heap.size w w' := by
  go_enter Tryz.func92, Tryz.ntmps92
  go_wp2_with (fail)
  refine (mark_any _ _ _ hk0 hk hi0 hi).mono ?_; rintro e w' ⟨rfl, rfl⟩
  go_wp2_with (fail)
  refine bodyPost_ret (v := .agg #[.int .u8 0, .string ⟨#[]⟩, .int .i64 0, .int .i64 (mkI k i)]) (by simp [results, Tryz.results92, go_sem]) rfl ⟨rfl, ?_⟩
  exact (Below.refl _ _).alloc (Nat.le_refl _) _
theorem eqgM_Tokens : Tryz.prog.eqGuardType Tryz.prog.depth 36 = false := by kernel_rfl
theorem eqlM_Tokens (m : Int) (w : World) : (binOp .eql 36 (.agg #[.int .u8 0, .string ⟨#[]⟩, .int .i64 0, .int .i64 m]) (.agg #[.int .u8 0, .string ⟨#[]⟩, .int .i64 0, .int .i64 m])).run Tryz.prog w = .ok (.bool true) w := by
  have u0 := Tryz.underlying34
  have u1 := Tryz.underlying9
  have u2 := Tryz.underlying2
  have u3 := Tryz.underlying3
  have a0 := Tryz.isAgg34
  have a1 := Tryz.isAgg9
  have a2 := Tryz.isAgg2
  have a3 := Tryz.isAgg3
  have hS : Tryz.prog.underlying 36 = some (.struct (Tryz.prog.fieldsOf 36)) := by kernel_rfl
  rw [run_eql_struct, show (10000 : Nat) = 9999 + 1 from rfl, run_equalIn_agg w 9999 36 _ _ hS (by kernel_rfl)]
  simp only [Program.fieldsOf, Tryz.underlying36]
  go_simp
  try simp
end Go.Proofs.YtfamljigcffngaaGreatDoor.Flt
