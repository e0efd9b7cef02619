/- The walk over the kit's markByte. -/
import Derived.Test.YtokphfpjgmmklaaDoorFlatMark
import Derived.IntWalk
namespace Go.Proofs.YtokphfpjgmmklaaDoor.Flt
open Go Go.RowKit Go.Proofs.YtokphfpjgmmklaaDoor.Kb

/-- the mark as a byte -/
def mkB (k i : Int) : Int := IntKind.u8.wrap (IntKind.u64.wrap (IntKind.u64.wrap (mkI k i) * 11400714819323198485) / 72057594037927936)
theorem markB_same (k i : Int) (w : World) (hk0 : 0 ≤ k) (hk : k ≤ 1000) (hi0 : 0 ≤ i) (hi : i ≤ 1000000) :
    Calls Tryd.prog 31 #[.int .i64 k, .int .i64 i] w fun e w' => e = .returned (.int .u8 (mkB k i)) ∧ w = w' := by
  go_enter Tryd.func31, Tryd.ntmps31
  go_wp2_with (fail)
  refine (mark_any _ _ _ hk0 hk hi0 hi).mono ?_; rintro e w' ⟨rfl, rfl⟩
  go_wp2
  go_ret
  refine ⟨?_, rfl⟩
  unfold mkB
  rfl
theorem markB_quiet (k i : Int) (w : World) (hk0 : 0 ≤ k) (hk : k ≤ 1000) (hi0 : 0 ≤ i) (hi : i ≤ 1000000) :
    Calls Tryd.prog 31 #[.int .i64 k, .int .i64 i] w fun e w' => e = .returned (.int .u8 (mkB k i)) ∧ w' = w :=
  (markB_same k i w hk0 hk hi0 hi).mono fun _ _ ⟨he, hw⟩ => ⟨he, hw.symm⟩
theorem markBytes_any (k i : Int) (w : World) (hk0 : 0 ≤ k) (hk : k ≤ 1000) (hi0 : 0 ≤ i) (hi : i ≤ 1000000) :
    Calls Tryd.prog 31 #[.int .i64 k, .int .i64 i] w fun e w' => e = .returned (.int .u8 (mkB k i)) ∧ Below w.heap.size w w' :=
  (markB_same k i w hk0 hk hi0 hi).mono fun _ _ ⟨he, hw⟩ => ⟨he, hw ▸ Below.refl _ _⟩
end Go.Proofs.YtokphfpjgmmklaaDoor.Flt
