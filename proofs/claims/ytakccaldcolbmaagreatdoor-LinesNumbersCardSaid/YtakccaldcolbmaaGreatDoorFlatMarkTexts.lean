/- The walk over the kit's markText. -/
import Derived.Test.YtakccaldcolbmaaGreatDoorFlatMark
import Derived.Test.YtakccaldcolbmaaGreatDoorLinesRq
import Derived.IntWalk
namespace Go.Proofs.YtakccaldcolbmaaGreatDoor.Flt
open Go Go.RowKit Go.Proofs.YtakccaldcolbmaaGreatDoor.Kb

/-- the mark's bytes -/
def mkTl (k i : Int) : List UInt8 := [35, UInt8.ofNat (k % 256).toNat, UInt8.ofNat (k / 256).toNat, UInt8.ofNat (k / 65536).toNat, 47, UInt8.ofNat (i % 256).toNat, UInt8.ofNat (i / 256 % 256).toNat, UInt8.ofNat (i / 65536).toNat]
/-- the mark as a text -/
def mkT (k i : Int) : ByteArray := ⟨(mkTl k i).toArray⟩
theorem of_small {n : Int} (h0 : 0 ≤ n) (h1 : n < 256) : ((UInt8.ofNat n.toNat).toNat : Int) = n := by
  rw [UInt8.toNat_ofNat']
  omega
theorem mkT_cells {k i : Int} (hk0 : 0 ≤ k) (hk : k ≤ 1000) (hi0 : 0 ≤ i) (hi : i ≤ 1000000) : Wln.bcN (mkTl k i) = [.int .u8 35, .int .u8 (k % 256), .int .u8 (k / 256), .int .u8 (k / 65536), .int .u8 47, .int .u8 (i % 256), .int .u8 (i / 256 % 256), .int .u8 (i / 65536)] := by
  unfold Wln.bcN mkTl
  simp only [List.map_cons, List.map_nil]
  rw [of_small (n := k % 256) (by omega) (by omega), of_small (n := k / 256) (by omega) (by omega), of_small (n := k / 65536) (by omega) (by omega), of_small (n := i % 256) (by omega) (by omega), of_small (n := i / 256 % 256) (by omega) (by omega), of_small (n := i / 65536) (by omega) (by omega)]
  rfl
set_option maxRecDepth 100000 in
theorem markTexts_any (k i : Int) (w : World) (hk0 : 0 ≤ k) (hk : k ≤ 1000) (hi0 : 0 ≤ i) (hi : i ≤ 1000000) :
    Calls Tryz.prog 74 #[.int .i64 k, .int .i64 i] w fun e w' => e = .returned (.string (mkT k i)) ∧ Below w.heap.size w w' := by
  have hcv := Wln.conv_ownB (mkTl k i) (Wln.own_lit w (mkTl k i) (by show 8 ≤ 1000; decide)) rfl
  rw [mkT_cells hk0 hk hi0 hi] at hcv
  have hcv : (convert 46 9 (.slice (some ⟨w.heap.size, 0, none⟩) 8 8)).run Tryz.prog (w.alloc (.cells #[.int .u8 35, .int .u8 (k % 256), .int .u8 (k / 256), .int .u8 (k / 65536), .int .u8 47, .int .u8 (i % 256), .int .u8 (i / 256 % 256), .int .u8 (i / 65536)] 5)) = .ok (.string (mkT k i)) _ := hcv
  go_enter Tryz.func74, Tryz.ntmps74
  go_wp2
  go_ret
  exact ⟨rfl, (Below.refl _ _).alloc (Nat.le_refl _) _⟩
end Go.Proofs.YtakccaldcolbmaaGreatDoor.Flt
