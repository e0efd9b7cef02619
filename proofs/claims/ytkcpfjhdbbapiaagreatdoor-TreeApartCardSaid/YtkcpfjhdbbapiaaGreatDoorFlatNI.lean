/- The walks over the kit's flat.. at no list at all. The walk over the kit's flatNodes. The walks over the kit's putNodes, apart and ApartNodes. The walk over the kit's flatInts. The walks over the kit's putInts, apart and ApartInts. -/
import Derived.Test.YtkcpfjhdbbapiaaGreatDoorFlatKit
import Derived.Test.YtkcpfjhdbbapiaaGreatDoorKitBytes
import Derived.OwnWalk
import Derived.Test.YtkcpfjhdbbapiaaGreatDoorLentNodes
import Derived.Deep.RegionHeld3
import Derived.Deep.RegionWith
import Derived.BigQuiet
import Derived.Deep.QuietTactic
import Derived.IntWalk
import Derived.Laws.StructEq
import Derived.Test.YtkcpfjhdbbapiaaGreatDoorFlatMark
namespace Go.Proofs.YtkcpfjhdbbapiaaGreatDoor.Flt
open Go Go.RowKit Go.Proofs.YtkcpfjhdbbapiaaGreatDoor.Kb

theorem infoNWords : (Tryz.prog.info? 116).map (fun i => (i.zero, i.size, i.bytes)) = some (some (.slice none 0 0), 1, 24) := by kernel_rfl
set_option maxRecDepth 100000 in
theorem nilWords (w : World) : Calls Tryz.prog 65 #[.slice none 0 0] w fun e w' => e = .returned (.bool true) ∧ Below w.heap.size w w' := by
  obtain ⟨iS, hiS, hzS, hsS, hbS⟩ := info_parts infoNWords
  go_enter Tryz.func65, Tryz.ntmps65
  go_wp2
  go_loop [3] (fun k => k = .int .i64 0) (fun _ => 0)
  case atStart => exact rfl
  case round =>
    cases hrel
    go_wp2_with (at_make; refine wpList_make_full _ rfl _ _ 63 rfl w.heap.size 116 iS (.slice none 0 0) 1 Tryz.underlying63 hiS hzS hsS .i64 .i64 _ _ 0 (by rfl) (by rfl) rfl rfl (by rw [hbS]; omega) (by decide) (Nat.le_refl _) ?_; intro w2 hown2 hgrow2; have hb2 := Kept.mk (below_of_grown hgrow2); clear hown2 hgrow2)
    go_loop [6] (fun k => k = .int .i64 0) (fun _ => 0)
    case atStart => exact rfl
    case round =>
      cases hrel
      go_wp2
      go_loop [9] (fun k => k = .int .i64 0) (fun _ => 0)
      case atStart => exact rfl
      case round =>
        cases hrel
        go_wp2
        go_loop [11] (fun k => k = .int .i64 0) (fun _ => 0)
        case atStart => exact rfl
        case round =>
          cases hrel
          go_wp2
          go_loop [14] (fun k => k = .int .i64 0) (fun _ => 0)
          case atStart => exact rfl
          case round =>
            cases hrel
            go_wp2
            go_ret
            exact ⟨rfl, hb2.out⟩
theorem infoNInts : (Tryz.prog.info? 27).map (fun i => (i.zero, i.size, i.bytes)) = some (some (.slice none 0 0), 1, 24) := by kernel_rfl
set_option maxRecDepth 100000 in
theorem nilInts (w : World) : Calls Tryz.prog 66 #[.slice none 0 0] w fun e w' => e = .returned (.bool true) ∧ Below w.heap.size w w' := by
  obtain ⟨iS, hiS, hzS, hsS, hbS⟩ := info_parts infoNInts
  go_enter Tryz.func66, Tryz.ntmps66
  go_wp2
  go_loop [3] (fun k => k = .int .i64 0) (fun _ => 0)
  case atStart => exact rfl
  case round =>
    cases hrel
    go_wp2_with (at_make; refine wpList_make_full _ rfl _ _ 36 rfl w.heap.size 27 iS (.slice none 0 0) 1 Tryz.underlying36 hiS hzS hsS .i64 .i64 _ _ 0 (by rfl) (by rfl) rfl rfl (by rw [hbS]; omega) (by decide) (Nat.le_refl _) ?_; intro w2 hown2 hgrow2; have hb2 := Kept.mk (below_of_grown hgrow2); clear hown2 hgrow2)
    go_loop [6] (fun k => k = .int .i64 0) (fun _ => 0)
    case atStart => exact rfl
    case round =>
      cases hrel
      go_wp2
      go_loop [9] (fun k => k = .int .i64 0) (fun _ => 0)
      case atStart => exact rfl
      case round =>
        cases hrel
        go_wp2
        go_loop [11] (fun k => k = .int .i64 0) (fun _ => 0)
        case atStart => exact rfl
        case round =>
          cases hrel
          go_wp2
          go_loop [14] (fun k => k = .int .i64 0) (fun _ => 0)
          case atStart => exact rfl
          case round =>
            cases hrel
            go_wp2
            go_ret
            exact ⟨rfl, hb2.out⟩
theorem infoNLongs : (Tryz.prog.info? 118).map (fun i => (i.zero, i.size, i.bytes)) = some (some (.slice none 0 0), 1, 24) := by kernel_rfl
set_option maxRecDepth 100000 in
theorem nilLongs (w : World) : Calls Tryz.prog 67 #[.slice none 0 0] w fun e w' => e = .returned (.bool true) ∧ Below w.heap.size w w' := by
  obtain ⟨iS, hiS, hzS, hsS, hbS⟩ := info_parts infoNLongs
  go_enter Tryz.func67, Tryz.ntmps67
  go_wp2
  go_loop [3] (fun k => k = .int .i64 0) (fun _ => 0)
  case atStart => exact rfl
  case round =>
    cases hrel
    go_wp2_with (at_make; refine wpList_make_full _ rfl _ _ 64 rfl w.heap.size 118 iS (.slice none 0 0) 1 Tryz.underlying64 hiS hzS hsS .i64 .i64 _ _ 0 (by rfl) (by rfl) rfl rfl (by rw [hbS]; omega) (by decide) (Nat.le_refl _) ?_; intro w2 hown2 hgrow2; have hb2 := Kept.mk (below_of_grown hgrow2); clear hown2 hgrow2)
    go_loop [6] (fun k => k = .int .i64 0) (fun _ => 0)
    case atStart => exact rfl
    case round =>
      cases hrel
      go_wp2
      go_loop [9] (fun k => k = .int .i64 0) (fun _ => 0)
      case atStart => exact rfl
      case round =>
        cases hrel
        go_wp2
        go_loop [11] (fun k => k = .int .i64 0) (fun _ => 0)
        case atStart => exact rfl
        case round =>
          cases hrel
          go_wp2
          go_loop [14] (fun k => k = .int .i64 0) (fun _ => 0)
          case atStart => exact rfl
          case round =>
            cases hrel
            go_wp2
            go_ret
            exact ⟨rfl, hb2.out⟩
theorem infoNTexts : (Tryz.prog.info? 119).map (fun i => (i.zero, i.size, i.bytes)) = some (some (.slice none 0 0), 1, 24) := by kernel_rfl
set_option maxRecDepth 100000 in
theorem nilTexts (w : World) : Calls Tryz.prog 68 #[.slice none 0 0] w fun e w' => e = .returned (.bool true) ∧ Below w.heap.size w w' := by
  obtain ⟨iS, hiS, hzS, hsS, hbS⟩ := info_parts infoNTexts
  go_enter Tryz.func68, Tryz.ntmps68
  go_wp2
  go_loop [3] (fun k => k = .int .i64 0) (fun _ => 0)
  case atStart => exact rfl
  case round =>
    cases hrel
    go_wp2_with (at_make; refine wpList_make_full _ rfl _ _ 65 rfl w.heap.size 119 iS (.slice none 0 0) 1 Tryz.underlying65 hiS hzS hsS .i64 .i64 _ _ 0 (by rfl) (by rfl) rfl rfl (by rw [hbS]; omega) (by decide) (Nat.le_refl _) ?_; intro w2 hown2 hgrow2; have hb2 := Kept.mk (below_of_grown hgrow2); clear hown2 hgrow2)
    go_loop [6] (fun k => k = .int .i64 0) (fun _ => 0)
    case atStart => exact rfl
    case round =>
      cases hrel
      go_wp2
      go_loop [9] (fun k => k = .int .i64 0) (fun _ => 0)
      case atStart => exact rfl
      case round =>
        cases hrel
        go_wp2
        go_loop [11] (fun k => k = .int .i64 0) (fun _ => 0)
        case atStart => exact rfl
        case round =>
          cases hrel
          go_wp2
          go_loop [14] (fun k => k = .int .i64 0) (fun _ => 0)
          case atStart => exact rfl
          case round =>
            cases hrel
            go_wp2
            go_ret
            exact ⟨rfl, hb2.out⟩
theorem infoNBytes : (Tryz.prog.info? 86).map (fun i => (i.zero, i.size, i.bytes)) = some (some (.slice none 0 0), 1, 24) := by kernel_rfl
set_option maxRecDepth 100000 in
theorem nilBytes (w : World) : Calls Tryz.prog 69 #[.slice none 0 0] w fun e w' => e = .returned (.bool true) ∧ Below w.heap.size w w' := by
  obtain ⟨iS, hiS, hzS, hsS, hbS⟩ := info_parts infoNBytes
  go_enter Tryz.func69, Tryz.ntmps69
  go_wp2
  go_loop [3] (fun k => k = .int .i64 0) (fun _ => 0)
  case atStart => exact rfl
  case round =>
    cases hrel
    go_wp2_with (at_make; refine wpList_make_full _ rfl _ _ 66 rfl w.heap.size 86 iS (.slice none 0 0) 1 Tryz.underlying66 hiS hzS hsS .i64 .i64 _ _ 0 (by rfl) (by rfl) rfl rfl (by rw [hbS]; omega) (by decide) (Nat.le_refl _) ?_; intro w2 hown2 hgrow2; have hb2 := Kept.mk (below_of_grown hgrow2); clear hown2 hgrow2)
    go_loop [6] (fun k => k = .int .i64 0) (fun _ => 0)
    case atStart => exact rfl
    case round =>
      cases hrel
      go_wp2
      go_loop [9] (fun k => k = .int .i64 0) (fun _ => 0)
      case atStart => exact rfl
      case round =>
        cases hrel
        go_wp2
        go_loop [11] (fun k => k = .int .i64 0) (fun _ => 0)
        case atStart => exact rfl
        case round =>
          cases hrel
          go_wp2
          go_loop [14] (fun k => k = .int .i64 0) (fun _ => 0)
          case atStart => exact rfl
          case round =>
            cases hrel
            go_wp2
            go_ret
            exact ⟨rfl, hb2.out⟩
theorem infoNNodes : (Tryz.prog.info? 22).map (fun i => (i.zero, i.size, i.bytes)) = some (some (.slice none 0 0), 1, 24) := by kernel_rfl
set_option maxRecDepth 100000 in
theorem nilNodes (w : World) : Calls Tryz.prog 70 #[.slice none 0 0] w fun e w' => e = .returned (.bool true) ∧ Below w.heap.size w w' := by
  obtain ⟨iS, hiS, hzS, hsS, hbS⟩ := info_parts infoNNodes
  go_enter Tryz.func70, Tryz.ntmps70
  go_wp2
  go_loop [3] (fun k => k = .int .i64 0) (fun _ => 0)
  case atStart => exact rfl
  case round =>
    cases hrel
    go_wp2_with (at_make; refine wpList_make_full _ rfl _ _ 33 rfl w.heap.size 22 iS (.slice none 0 0) 1 Tryz.underlying33 hiS hzS hsS .i64 .i64 _ _ 0 (by rfl) (by rfl) rfl rfl (by rw [hbS]; omega) (by decide) (Nat.le_refl _) ?_; intro w2 hown2 hgrow2; have hb2 := Kept.mk (below_of_grown hgrow2); clear hown2 hgrow2)
    go_loop [6] (fun k => k = .int .i64 0) (fun _ => 0)
    case atStart => exact rfl
    case round =>
      cases hrel
      go_wp2
      go_loop [9] (fun k => k = .int .i64 0) (fun _ => 0)
      case atStart => exact rfl
      case round =>
        cases hrel
        go_wp2
        go_loop [11] (fun k => k = .int .i64 0) (fun _ => 0)
        case atStart => exact rfl
        case round =>
          cases hrel
          go_wp2
          go_loop [14] (fun k => k = .int .i64 0) (fun _ => 0)
          case atStart => exact rfl
          case round =>
            cases hrel
            go_wp2
            go_ret
            exact ⟨rfl, hb2.out⟩
theorem infoNFates : (Tryz.prog.info? 122).map (fun i => (i.zero, i.size, i.bytes)) = some (some (.slice none 0 0), 1, 24) := by kernel_rfl
set_option maxRecDepth 100000 in
theorem nilFates (w : World) : Calls Tryz.prog 71 #[.slice none 0 0] w fun e w' => e = .returned (.bool true) ∧ Below w.heap.size w w' := by
  obtain ⟨iS, hiS, hzS, hsS, hbS⟩ := info_parts infoNFates
  go_enter Tryz.func71, Tryz.ntmps71
  go_wp2
  go_loop [3] (fun k => k = .int .i64 0) (fun _ => 0)
  case atStart => exact rfl
  case round =>
    cases hrel
    go_wp2_with (at_make; refine wpList_make_full _ rfl _ _ 67 rfl w.heap.size 122 iS (.slice none 0 0) 1 Tryz.underlying67 hiS hzS hsS .i64 .i64 _ _ 0 (by rfl) (by rfl) rfl rfl (by rw [hbS]; omega) (by decide) (Nat.le_refl _) ?_; intro w2 hown2 hgrow2; have hb2 := Kept.mk (below_of_grown hgrow2); clear hown2 hgrow2)
    go_loop [6] (fun k => k = .int .i64 0) (fun _ => 0)
    case atStart => exact rfl
    case round =>
      cases hrel
      go_wp2
      go_loop [9] (fun k => k = .int .i64 0) (fun _ => 0)
      case atStart => exact rfl
      case round =>
        cases hrel
        go_wp2
        go_loop [11] (fun k => k = .int .i64 0) (fun _ => 0)
        case atStart => exact rfl
        case round =>
          cases hrel
          go_wp2
          go_loop [14] (fun k => k = .int .i64 0) (fun _ => 0)
          case atStart => exact rfl
          case round =>
            cases hrel
            go_wp2
            go_ret
            exact ⟨rfl, hb2.out⟩
theorem infoNSpans : (Tryz.prog.info? 126).map (fun i => (i.zero, i.size, i.bytes)) = some (some (.slice none 0 0), 1, 24) := by kernel_rfl
set_option maxRecDepth 100000 in
theorem nilSpans (w : World) : Calls Tryz.prog 72 #[.slice none 0 0] w fun e w' => e = .returned (.bool true) ∧ Below w.heap.size w w' := by
  obtain ⟨iS, hiS, hzS, hsS, hbS⟩ := info_parts infoNSpans
  go_enter Tryz.func72, Tryz.ntmps72
  go_wp2
  go_loop [3] (fun k => k = .int .i64 0) (fun _ => 0)
  case atStart => exact rfl
  case round =>
    cases hrel
    go_wp2_with (at_make; refine wpList_make_full _ rfl _ _ 68 rfl w.heap.size 126 iS (.slice none 0 0) 1 Tryz.underlying68 hiS hzS hsS .i64 .i64 _ _ 0 (by rfl) (by rfl) rfl rfl (by rw [hbS]; omega) (by decide) (Nat.le_refl _) ?_; intro w2 hown2 hgrow2; have hb2 := Kept.mk (below_of_grown hgrow2); clear hown2 hgrow2)
    go_loop [6] (fun k => k = .int .i64 0) (fun _ => 0)
    case atStart => exact rfl
    case round =>
      cases hrel
      go_wp2
      go_loop [9] (fun k => k = .int .i64 0) (fun _ => 0)
      case atStart => exact rfl
      case round =>
        cases hrel
        go_wp2
        go_loop [11] (fun k => k = .int .i64 0) (fun _ => 0)
        case atStart => exact rfl
        case round =>
          cases hrel
          go_wp2
          go_loop [14] (fun k => k = .int .i64 0) (fun _ => 0)
          case atStart => exact rfl
          case round =>
            cases hrel
            go_wp2
            go_ret
            exact ⟨rfl, hb2.out⟩
theorem infoNDirties : (Tryz.prog.info? 131).map (fun i => (i.zero, i.size, i.bytes)) = some (some (.slice none 0 0), 1, 24) := by kernel_rfl
set_option maxRecDepth 100000 in
theorem nilDirties (w : World) : Calls Tryz.prog 73 #[.slice none 0 0] w fun e w' => e = .returned (.bool true) ∧ Below w.heap.size w w' := by
  obtain ⟨iS, hiS, hzS, hsS, hbS⟩ := info_parts infoNDirties
  go_enter Tryz.func73, Tryz.ntmps73
  go_wp2
  go_loop [3] (fun k => k = .int .i64 0) (fun _ => 0)
  case atStart => exact rfl
  case round =>
    cases hrel
    go_wp2_with (at_make; refine wpList_make_full _ rfl _ _ 69 rfl w.heap.size 131 iS (.slice none 0 0) 1 Tryz.underlying69 hiS hzS hsS .i64 .i64 _ _ 0 (by rfl) (by rfl) rfl rfl (by rw [hbS]; omega) (by decide) (Nat.le_refl _) ?_; intro w2 hown2 hgrow2; have hb2 := Kept.mk (below_of_grown hgrow2); clear hown2 hgrow2)
    go_loop [6] (fun k => k = .int .i64 0) (fun _ => 0)
    case atStart => exact rfl
    case round =>
      cases hrel
      go_wp2
      go_loop [9] (fun k => k = .int .i64 0) (fun _ => 0)
      case atStart => exact rfl
      case round =>
        cases hrel
        go_wp2
        go_loop [11] (fun k => k = .int .i64 0) (fun _ => 0)
        case atStart => exact rfl
        case round =>
          cases hrel
          go_wp2
          go_loop [14] (fun k => k = .int .i64 0) (fun _ => 0)
          case atStart => exact rfl
          case round =>
            cases hrel
            go_wp2
            go_ret
            exact ⟨rfl, hb2.out⟩
theorem infoNRecords : (Tryz.prog.info? 135).map (fun i => (i.zero, i.size, i.bytes)) = some (some (.slice none 0 0), 1, 24) := by kernel_rfl
set_option maxRecDepth 100000 in
theorem nilRecords (w : World) : Calls Tryz.prog 74 #[.slice none 0 0] w fun e w' => e = .returned (.bool true) ∧ Below w.heap.size w w' := by
  obtain ⟨iS, hiS, hzS, hsS, hbS⟩ := info_parts infoNRecords
  go_enter Tryz.func74, Tryz.ntmps74
  go_wp2
  go_loop [3] (fun k => k = .int .i64 0) (fun _ => 0)
  case atStart => exact rfl
  case round =>
    cases hrel
    go_wp2_with (at_make; refine wpList_make_full _ rfl _ _ 70 rfl w.heap.size 135 iS (.slice none 0 0) 1 Tryz.underlying70 hiS hzS hsS .i64 .i64 _ _ 0 (by rfl) (by rfl) rfl rfl (by rw [hbS]; omega) (by decide) (Nat.le_refl _) ?_; intro w2 hown2 hgrow2; have hb2 := Kept.mk (below_of_grown hgrow2); clear hown2 hgrow2)
    go_loop [6] (fun k => k = .int .i64 0) (fun _ => 0)
    case atStart => exact rfl
    case round =>
      cases hrel
      go_wp2
      go_loop [9] (fun k => k = .int .i64 0) (fun _ => 0)
      case atStart => exact rfl
      case round =>
        cases hrel
        go_wp2
        go_loop [11] (fun k => k = .int .i64 0) (fun _ => 0)
        case atStart => exact rfl
        case round =>
          cases hrel
          go_wp2
          go_loop [14] (fun k => k = .int .i64 0) (fun _ => 0)
          case atStart => exact rfl
          case round =>
            cases hrel
            go_wp2
            go_ret
            exact ⟨rfl, hb2.out⟩
theorem infoNCells : (Tryz.prog.info? 141).map (fun i => (i.zero, i.size, i.bytes)) = some (some (.slice none 0 0), 1, 24) := by kernel_rfl
set_option maxRecDepth 100000 in
theorem nilCells (w : World) : Calls Tryz.prog 75 #[.slice none 0 0] w fun e w' => e = .returned (.bool true) ∧ Below w.heap.size w w' := by
  obtain ⟨iS, hiS, hzS, hsS, hbS⟩ := info_parts infoNCells
  go_enter Tryz.func75, Tryz.ntmps75
  go_wp2
  go_loop [3] (fun k => k = .int .i64 0) (fun _ => 0)
  case atStart => exact rfl
  case round =>
    cases hrel
    go_wp2_with (at_make; refine wpList_make_full _ rfl _ _ 71 rfl w.heap.size 141 iS (.slice none 0 0) 1 Tryz.underlying71 hiS hzS hsS .i64 .i64 _ _ 0 (by rfl) (by rfl) rfl rfl (by rw [hbS]; omega) (by decide) (Nat.le_refl _) ?_; intro w2 hown2 hgrow2; have hb2 := Kept.mk (below_of_grown hgrow2); clear hown2 hgrow2)
    go_loop [6] (fun k => k = .int .i64 0) (fun _ => 0)
    case atStart => exact rfl
    case round =>
      cases hrel
      go_wp2
      go_loop [9] (fun k => k = .int .i64 0) (fun _ => 0)
      case atStart => exact rfl
      case round =>
        cases hrel
        go_wp2
        go_loop [11] (fun k => k = .int .i64 0) (fun _ => 0)
        case atStart => exact rfl
        case round =>
          cases hrel
          go_wp2
          go_loop [14] (fun k => k = .int .i64 0) (fun _ => 0)
          case atStart => exact rfl
          case round =>
            cases hrel
            go_wp2
            go_ret
            exact ⟨rfl, hb2.out⟩
theorem infoNHelds : (Tryz.prog.info? 146).map (fun i => (i.zero, i.size, i.bytes)) = some (some (.slice none 0 0), 1, 24) := by kernel_rfl
set_option maxRecDepth 100000 in
theorem nilHelds (w : World) : Calls Tryz.prog 76 #[.slice none 0 0] w fun e w' => e = .returned (.bool true) ∧ Below w.heap.size w w' := by
  obtain ⟨iS, hiS, hzS, hsS, hbS⟩ := info_parts infoNHelds
  go_enter Tryz.func76, Tryz.ntmps76
  go_wp2
  go_loop [3] (fun k => k = .int .i64 0) (fun _ => 0)
  case atStart => exact rfl
  case round =>
    cases hrel
    go_wp2_with (at_make; refine wpList_make_full _ rfl _ _ 72 rfl w.heap.size 146 iS (.slice none 0 0) 1 Tryz.underlying72 hiS hzS hsS .i64 .i64 _ _ 0 (by rfl) (by rfl) rfl rfl (by rw [hbS]; omega) (by decide) (Nat.le_refl _) ?_; intro w2 hown2 hgrow2; have hb2 := Kept.mk (below_of_grown hgrow2); clear hown2 hgrow2)
    go_loop [6] (fun k => k = .int .i64 0) (fun _ => 0)
    case atStart => exact rfl
    case round =>
      cases hrel
      go_wp2
      go_loop [9] (fun k => k = .int .i64 0) (fun _ => 0)
      case atStart => exact rfl
      case round =>
        cases hrel
        go_wp2
        go_loop [11] (fun k => k = .int .i64 0) (fun _ => 0)
        case atStart => exact rfl
        case round =>
          cases hrel
          go_wp2
          go_loop [14] (fun k => k = .int .i64 0) (fun _ => 0)
          case atStart => exact rfl
          case round =>
            cases hrel
            go_wp2
            go_ret
            exact ⟨rfl, hb2.out⟩
theorem infoNTokens : (Tryz.prog.info? 151).map (fun i => (i.zero, i.size, i.bytes)) = some (some (.slice none 0 0), 1, 24) := by kernel_rfl
set_option maxRecDepth 100000 in
theorem nilTokens (w : World) : Calls Tryz.prog 77 #[.slice none 0 0] w fun e w' => e = .returned (.bool true) ∧ Below w.heap.size w w' := by
  obtain ⟨iS, hiS, hzS, hsS, hbS⟩ := info_parts infoNTokens
  go_enter Tryz.func77, Tryz.ntmps77
  go_wp2
  go_loop [3] (fun k => k = .int .i64 0) (fun _ => 0)
  case atStart => exact rfl
  case round =>
    cases hrel
    go_wp2_with (at_make; refine wpList_make_full _ rfl _ _ 73 rfl w.heap.size 151 iS (.slice none 0 0) 1 Tryz.underlying73 hiS hzS hsS .i64 .i64 _ _ 0 (by rfl) (by rfl) rfl rfl (by rw [hbS]; omega) (by decide) (Nat.le_refl _) ?_; intro w2 hown2 hgrow2; have hb2 := Kept.mk (below_of_grown hgrow2); clear hown2 hgrow2)
    go_loop [6] (fun k => k = .int .i64 0) (fun _ => 0)
    case atStart => exact rfl
    case round =>
      cases hrel
      go_wp2
      go_loop [9] (fun k => k = .int .i64 0) (fun _ => 0)
      case atStart => exact rfl
      case round =>
        cases hrel
        go_wp2
        go_loop [11] (fun k => k = .int .i64 0) (fun _ => 0)
        case atStart => exact rfl
        case round =>
          cases hrel
          go_wp2
          go_loop [14] (fun k => k = .int .i64 0) (fun _ => 0)
          case atStart => exact rfl
          case round =>
            cases hrel
            go_wp2
            go_ret
            exact ⟨rfl, hb2.out⟩
theorem infoNExprs : (Tryz.prog.info? 156).map (fun i => (i.zero, i.size, i.bytes)) = some (some (.slice none 0 0), 1, 24) := by kernel_rfl
set_option maxRecDepth 100000 in
theorem nilExprs (w : World) : Calls Tryz.prog 78 #[.slice none 0 0] w fun e w' => e = .returned (.bool true) ∧ Below w.heap.size w w' := by
  obtain ⟨iS, hiS, hzS, hsS, hbS⟩ := info_parts infoNExprs
  go_enter Tryz.func78, Tryz.ntmps78
  go_wp2
  go_loop [3] (fun k => k = .int .i64 0) (fun _ => 0)
  case atStart => exact rfl
  case round =>
    cases hrel
    go_wp2_with (at_make; refine wpList_make_full _ rfl _ _ 74 rfl w.heap.size 156 iS (.slice none 0 0) 1 Tryz.underlying74 hiS hzS hsS .i64 .i64 _ _ 0 (by rfl) (by rfl) rfl rfl (by rw [hbS]; omega) (by decide) (Nat.le_refl _) ?_; intro w2 hown2 hgrow2; have hb2 := Kept.mk (below_of_grown hgrow2); clear hown2 hgrow2)
    go_loop [6] (fun k => k = .int .i64 0) (fun _ => 0)
    case atStart => exact rfl
    case round =>
      cases hrel
      go_wp2
      go_loop [9] (fun k => k = .int .i64 0) (fun _ => 0)
      case atStart => exact rfl
      case round =>
        cases hrel
        go_wp2
        go_loop [11] (fun k => k = .int .i64 0) (fun _ => 0)
        case atStart => exact rfl
        case round =>
          cases hrel
          go_wp2
          go_loop [14] (fun k => k = .int .i64 0) (fun _ => 0)
          case atStart => exact rfl
          case round =>
            cases hrel
            go_wp2
            go_ret
            exact ⟨rfl, hb2.out⟩
theorem infoNItems : (Tryz.prog.info? 162).map (fun i => (i.zero, i.size, i.bytes)) = some (some (.slice none 0 0), 1, 24) := by kernel_rfl
set_option maxRecDepth 100000 in
theorem nilItems (w : World) : Calls Tryz.prog 79 #[.slice none 0 0] w fun e w' => e = .returned (.bool true) ∧ Below w.heap.size w w' := by
  obtain ⟨iS, hiS, hzS, hsS, hbS⟩ := info_parts infoNItems
  go_enter Tryz.func79, Tryz.ntmps79
  go_wp2
  go_loop [3] (fun k => k = .int .i64 0) (fun _ => 0)
  case atStart => exact rfl
  case round =>
    cases hrel
    go_wp2_with (at_make; refine wpList_make_full _ rfl _ _ 75 rfl w.heap.size 162 iS (.slice none 0 0) 1 Tryz.underlying75 hiS hzS hsS .i64 .i64 _ _ 0 (by rfl) (by rfl) rfl rfl (by rw [hbS]; omega) (by decide) (Nat.le_refl _) ?_; intro w2 hown2 hgrow2; have hb2 := Kept.mk (below_of_grown hgrow2); clear hown2 hgrow2)
    go_loop [6] (fun k => k = .int .i64 0) (fun _ => 0)
    case atStart => exact rfl
    case round =>
      cases hrel
      go_wp2
      go_loop [9] (fun k => k = .int .i64 0) (fun _ => 0)
      case atStart => exact rfl
      case round =>
        cases hrel
        go_wp2
        go_loop [11] (fun k => k = .int .i64 0) (fun _ => 0)
        case atStart => exact rfl
        case round =>
          cases hrel
          go_wp2
          go_loop [14] (fun k => k = .int .i64 0) (fun _ => 0)
          case atStart => exact rfl
          case round =>
            cases hrel
            go_wp2
            go_ret
            exact ⟨rfl, hb2.out⟩
theorem infoNShowns : (Tryz.prog.info? 167).map (fun i => (i.zero, i.size, i.bytes)) = some (some (.slice none 0 0), 1, 24) := by kernel_rfl
set_option maxRecDepth 100000 in
theorem nilShowns (w : World) : Calls Tryz.prog 80 #[.slice none 0 0] w fun e w' => e = .returned (.bool true) ∧ Below w.heap.size w w' := by
  obtain ⟨iS, hiS, hzS, hsS, hbS⟩ := info_parts infoNShowns
  go_enter Tryz.func80, Tryz.ntmps80
  go_wp2
  go_loop [3] (fun k => k = .int .i64 0) (fun _ => 0)
  case atStart => exact rfl
  case round =>
    cases hrel
    go_wp2_with (at_make; refine wpList_make_full _ rfl _ _ 76 rfl w.heap.size 167 iS (.slice none 0 0) 1 Tryz.underlying76 hiS hzS hsS .i64 .i64 _ _ 0 (by rfl) (by rfl) rfl rfl (by rw [hbS]; omega) (by decide) (Nat.le_refl _) ?_; intro w2 hown2 hgrow2; have hb2 := Kept.mk (below_of_grown hgrow2); clear hown2 hgrow2)
    go_loop [6] (fun k => k = .int .i64 0) (fun _ => 0)
    case atStart => exact rfl
    case round =>
      cases hrel
      go_wp2
      go_loop [9] (fun k => k = .int .i64 0) (fun _ => 0)
      case atStart => exact rfl
      case round =>
        cases hrel
        go_wp2
        go_loop [11] (fun k => k = .int .i64 0) (fun _ => 0)
        case atStart => exact rfl
        case round =>
          cases hrel
          go_wp2
          go_loop [14] (fun k => k = .int .i64 0) (fun _ => 0)
          case atStart => exact rfl
          case round =>
            cases hrel
            go_wp2
            go_ret
            exact ⟨rfl, hb2.out⟩
theorem infoNParts : (Tryz.prog.info? 171).map (fun i => (i.zero, i.size, i.bytes)) = some (some (.slice none 0 0), 1, 24) := by kernel_rfl
set_option maxRecDepth 100000 in
theorem nilParts (w : World) : Calls Tryz.prog 81 #[.slice none 0 0] w fun e w' => e = .returned (.bool true) ∧ Below w.heap.size w w' := by
  obtain ⟨iS, hiS, hzS, hsS, hbS⟩ := info_parts infoNParts
  go_enter Tryz.func81, Tryz.ntmps81
  go_wp2
  go_loop [3] (fun k => k = .int .i64 0) (fun _ => 0)
  case atStart => exact rfl
  case round =>
    cases hrel
    go_wp2_with (at_make; refine wpList_make_full _ rfl _ _ 77 rfl w.heap.size 171 iS (.slice none 0 0) 1 Tryz.underlying77 hiS hzS hsS .i64 .i64 _ _ 0 (by rfl) (by rfl) rfl rfl (by rw [hbS]; omega) (by decide) (Nat.le_refl _) ?_; intro w2 hown2 hgrow2; have hb2 := Kept.mk (below_of_grown hgrow2); clear hown2 hgrow2)
    go_loop [6] (fun k => k = .int .i64 0) (fun _ => 0)
    case atStart => exact rfl
    case round =>
      cases hrel
      go_wp2
      go_loop [9] (fun k => k = .int .i64 0) (fun _ => 0)
      case atStart => exact rfl
      case round =>
        cases hrel
        go_wp2
        go_loop [11] (fun k => k = .int .i64 0) (fun _ => 0)
        case atStart => exact rfl
        case round =>
          cases hrel
          go_wp2
          go_loop [14] (fun k => k = .int .i64 0) (fun _ => 0)
          case atStart => exact rfl
          case round =>
            cases hrel
            go_wp2
            go_ret
            exact ⟨rfl, hb2.out⟩
theorem infoNCommands : (Tryz.prog.info? 177).map (fun i => (i.zero, i.size, i.bytes)) = some (some (.slice none 0 0), 1, 24) := by kernel_rfl
set_option maxRecDepth 100000 in
theorem nilCommands (w : World) : Calls Tryz.prog 82 #[.slice none 0 0] w fun e w' => e = .returned (.bool true) ∧ Below w.heap.size w w' := by
  obtain ⟨iS, hiS, hzS, hsS, hbS⟩ := info_parts infoNCommands
  go_enter Tryz.func82, Tryz.ntmps82
  go_wp2
  go_loop [3] (fun k => k = .int .i64 0) (fun _ => 0)
  case atStart => exact rfl
  case round =>
    cases hrel
    go_wp2_with (at_make; refine wpList_make_full _ rfl _ _ 78 rfl w.heap.size 177 iS (.slice none 0 0) 1 Tryz.underlying78 hiS hzS hsS .i64 .i64 _ _ 0 (by rfl) (by rfl) rfl rfl (by rw [hbS]; omega) (by decide) (Nat.le_refl _) ?_; intro w2 hown2 hgrow2; have hb2 := Kept.mk (below_of_grown hgrow2); clear hown2 hgrow2)
    go_loop [6] (fun k => k = .int .i64 0) (fun _ => 0)
    case atStart => exact rfl
    case round =>
      cases hrel
      go_wp2
      go_loop [9] (fun k => k = .int .i64 0) (fun _ => 0)
      case atStart => exact rfl
      case round =>
        cases hrel
        go_wp2
        go_loop [11] (fun k => k = .int .i64 0) (fun _ => 0)
        case atStart => exact rfl
        case round =>
          cases hrel
          go_wp2
          go_loop [14] (fun k => k = .int .i64 0) (fun _ => 0)
          case atStart => exact rfl
          case round =>
            cases hrel
            go_wp2
            go_ret
            exact ⟨rfl, hb2.out⟩
end Go.Proofs.YtkcpfjhdbbapiaaGreatDoor.Flt
namespace Go.Proofs.YtkcpfjhdbbapiaaGreatDoor.Flt
open Go Go.RowKit Go.Proofs.YtkcpfjhdbbapiaaGreatDoor.Kb

theorem eqlM_Nodes (m : Int) (w : World) : (binOp .eql 47 (.agg #[.int .u8 0, .string ⟨#[]⟩, .string ⟨#[]⟩, .int .i64 m]) (.agg #[.int .u8 0, .string ⟨#[]⟩, .string ⟨#[]⟩, .int .i64 m])).run Tryz.prog w = .ok (.bool true) w := eql_node 0 ⟨#[]⟩ ⟨#[]⟩ m w
def mkNodes (k i : Nat) : List Value := [.int .u8 0, .string ⟨#[]⟩, .string ⟨#[]⟩, .int .i64 (mkI k i)]
theorem lenNodes (k i : Nat) : (mkNodes k i).length = 4 := rfl
theorem oneNodes : ∀ (n k : Nat), ∀ u ∈ marks mkNodes k n, u.oneCell' = true := by
  intro n k u hu
  obtain ⟨i, _, hi⟩ := List.mem_flatMap.1 hu
  simp only [mkNodes, List.mem_cons, List.mem_nil_iff, or_false] at hi
  rcases hi with rfl | rfl | rfl | rfl <;> rfl
theorem infoNodes : (Tryz.prog.info? 47).map (fun i => (i.zero, i.size, i.bytes)) = some (some (.agg #[.int .u8 0, .string ⟨#[]⟩, .string ⟨#[]⟩, .int .i64 0]), 4, 48) := by kernel_rfl
theorem infoSNodes : (Tryz.prog.info? 22).map (fun i => (i.zero, i.size, i.bytes)) = some (some (.slice none 0 0), 1, 24) := by kernel_rfl
theorem cxNodes_ne : 47 ≠ 22 := by decide
def cxNodes (B0 K : Nat) (lsv : Value) (vs : List Value) (ns : Nat → Nat) (w : World) : Ctx := ⟨47, 22, 4, mkNodes, B0, K, lsv, vs, ns, w⟩
set_option maxRecDepth 200000 in
set_option maxHeartbeats 8000000 in
theorem flatNodes_any (B0 K B C : Nat) (vs : List Value) (ns : Nat → Nat) (xs0 : Nat → List Value) (w : World) (hK : K ≤ 100) (hn : ∀ k, ns k ≤ 100000)
    (hc : (cxNodes B0 K (.slice (some ⟨B, 0, none⟩) K C) vs ns w).Ok) (hB : Bas (cxNodes B0 K (.slice (some ⟨B, 0, none⟩) K C) vs ns w) w) (hF : Fam (cxNodes B0 K (.slice (some ⟨B, 0, none⟩) K C) vs ns w) xs0 w) :
    Calls Tryz.prog 70 #[.slice (some ⟨B, 0, none⟩) K C] w fun e w' => e = .returned (.bool true) ∧ Kpt (cxNodes B0 K (.slice (some ⟨B, 0, none⟩) K C) vs ns w) w' := by
  have HC := Kept.mk hc
  have HS := Kept.mk (F1.start hB hF)
  obtain ⟨c, hcx⟩ : ∃ c, c = cxNodes B0 K (.slice (some ⟨B, 0, none⟩) K C) vs ns w := ⟨_, rfl⟩
  rw [← hcx] at HC HS
  have eK : c.K = K := by rw [hcx]; rfl
  have eL : c.lsv = .slice (some ⟨B, 0, none⟩) c.K C := by rw [hcx]; rfl
  have eN : ∀ k, c.ns k ≤ 100000 := by intro k; rw [hcx]; exact hn k
  have eZ : c.sz = 4 := by rw [hcx]; rfl
  have eM : c.mq = mkNodes := by rw [hcx]; rfl
  have eW : c.w = w := by rw [hcx]; rfl
  have eB : c.B0 = B0 := by rw [hcx]; rfl
  have eE : c.E = 47 := by rw [hcx]; rfl
  have eS : c.S = 22 := by rw [hcx]; rfl
  have LS : Kept (∀ (wx : World) (j : Nat) (v : Value), Bas c wx → c.vs[j]? = some v → wx.cell? ⟨B, j, none⟩ = some v) := ⟨fun wx j v h hv => h.ls eL hv⟩
  have HL := Kept.mk eL
  have HN := Kept.mk eN
  have HCX := Kept.mk hcx
  have HZ := Kept.mk eZ
  have HM := Kept.mk eM
  have HK := Kept.mk eK
  have HE := Kept.mk eE
  have HSS := Kept.mk eS
  have HB0 := Kept.mk eB
  have HW := Kept.mk eW
  have hB0 : B0 ≤ w.heap.size := hc.low
  clear hc hB hF hcx eK eL eN eZ eM eB eE eS eW hn
  go_enter Tryz.func70, Tryz.ntmps70
  go_wp2
  go_loopw [3] (fun k wx => ∃ k' : Nat, k' ≤ K ∧ k = .int .i64 k' ∧ F1 c k' 0 wx) (fun k _ => K - (intOf k).toNat)
  case atStart => exact ⟨0, by omega, rfl, HS.out⟩
  case round =>
    obtain ⟨k, hk, rfl, hR⟩ := hrel
    have HR := Kept.mk hR
    clear hR
    by_cases hlt : k < K
    · obtain ⟨v, hv⟩ := HR.out.1.get (j := k) (by rw [HK.out]; exact hlt)
      obtain ⟨A, cc, rfl, _⟩ : ∃ A cc, v = .slice A (c.ns k) cc ∧ c.ns k ≤ cc := by
        obtain ⟨_, xs, h1, _⟩ := HR.out
        exact own_slice (h1 k v hv)
      have HV := Kept.mk hv
      have hnk := HN.out k
      have l0 : wr.cell? ⟨B, k, none⟩ = some (.slice A (c.ns k) cc) := LS.out _ _ _ HR.out.1 hv
      have i0 : (0 : Int) ≤ (k : Int) := by omega
      have i1 : (k : Int) < (K : Int) := by omega
      clear hv
      obtain ⟨wo, rfl⟩ : ∃ wo : World, wo = wr := ⟨_, rfl⟩
      go_wp2
      go_loopw [4] (fun i wx => ∃ i' : Nat, i' ≤ c.ns k ∧ i = .int .i64 i' ∧ F1 c k i' wx) (fun i _ => c.ns k - (intOf i).toNat)
      case atStart => exact ⟨0, by omega, rfl, HR.out⟩
      case round =>
        obtain ⟨i, hi, rfl, hR2⟩ := hrel
        have HR2 := Kept.mk hR2
        have l1 : wr.cell? ⟨B, k, none⟩ = some (.slice A (c.ns k) cc) := LS.out _ _ _ hR2.1 HV.out
        clear hR2
        by_cases hlt2 : i < c.ns k
        · as_aux_lemma =>
          obtain ⟨g, cc', e, hg0, hg1, hcl, hfz, hgl⟩ := HR2.out.row HC.out HV.out hlt2
          cases e
          have hgB : g ≠ B := fun e => hgl (by rw [HL.out, e]; rfl)
          clear hgl
          rw [HZ.out] at hcl
          have i2 : (0 : Int) ≤ (i : Int) := by omega
          have i3 : (i : Int) < ((c.ns k : Nat) : Int) := by omega
          obtain ⟨u0, z0⟩ := hcl 0 (by omega)
          obtain ⟨u1, z1⟩ := hcl 1 (by omega)
          obtain ⟨u2, z2⟩ := hcl 2 (by omega)
          obtain ⟨u3, z3⟩ := hcl 3 (by omega)
          simp only [Nat.add_zero] at z0 z1 z2 z3
          have f0 : wr.frozen? ⟨g, i * 4, none⟩ = false := hfz _
          have f1 : wr.frozen? ⟨g, i * 4 + 1, none⟩ = false := hfz _
          have f2 : wr.frozen? ⟨g, i * 4 + 2, none⟩ = false := hfz _
          have f3 : wr.frozen? ⟨g, i * 4 + 3, none⟩ = false := hfz _
          clear hcl hfz
          go_wp2_with (fail)
          go_region_held3 (fun wx => wx.cell? ⟨B, k, none⟩ = some (.slice (some ⟨g, 0, none⟩) (c.ns k) cc)) (first | exact l1 | exact cel_keep (bel_drew hb1) l1 | (rw [World.cell?_setCell_far _ _ _ _ hgB, World.cell?_setCell_far _ _ _ _ hgB, World.cell?_setCell_far _ _ _ _ hgB, World.cell?_setCell_far _ _ _ _ hgB]; exact cel_keep (bel_drew hb1) l1)) (first | (go_at_call 31; refine (markNodes_any (k) (i) _ (by omega) (by omega) (by omega) (by omega)).mono ?_; rintro e w1 ⟨rfl, hb1⟩; have z0 := cel_keep (bel_drew hb1) z0; have f0 := fro_keep (bel_drew hb1) hg1 f0; have z1 := cel_keep (bel_drew hb1) z1; have f1 := fro_keep (bel_drew hb1) hg1 f1; have z2 := cel_keep (bel_drew hb1) z2; have f2 := fro_keep (bel_drew hb1) hg1 f2; have z3 := cel_keep (bel_drew hb1) z3; have f3 := fro_keep (bel_drew hb1) hg1 f3))
          go_wp2
          have hst := F1.store HC.out (HR2.out.below HC.out (bel_drew hb1)) HV.out hlt2
          rw [HZ.out, HM.out] at hst
          have HST := Kept.mk hst
          clear hst
          go_roundw
          case rel => exact ⟨i + 1, by omega, by go_num, HST.out⟩
          case measure => simp [intOf]; omega
        · obtain rfl : i = c.ns k := by omega
          have H1 := Kept.mk (HR2.out.next HC.out HV.out)
          go_wp2
          go_roundw
          case rel => exact ⟨k + 1, by omega, by go_num, H1.out⟩
          case measure => simp [intOf]; omega
    · obtain rfl : k = K := by omega
      have hM : Mar c wr := F1.done (by rw [HK.out]; exact HR.out)
      obtain ⟨iS, hiS, hzS, hsS, hbS⟩ := info_parts infoSNodes
      have hlow : B0 ≤ wr.heap.size := by have h1 := hM.1.1.size; rw [HW.out] at h1; exact Nat.le_trans hB0 h1
      have M0 := Kept.mk hM
      clear hM HR HS
      go_wp2_with (at_make; refine wpList_make_full _ rfl _ _ 33 rfl B0 22 iS (.slice none 0 0) 1 Tryz.underlying33 hiS hzS hsS .i64 .i64 _ _ k (by rfl) (by rfl) rfl rfl (by rw [hbS]; omega) (by unfold maxLen; omega) hlow ?_; intro w2 hown2 hgrow2; have hGs := gs_new (m := 64) (ys := fun j => marks c.mq j (c.ns j + 64)) M0.out.1 (by rw [HB0.out, HSS.out, HK.out]; exact hown2); have M2 := Kept.mk (M0.out.below HC.out (below_of_grown hgrow2)); have G2 := Kept.mk hGs; clear hown2 hgrow2 hGs)
      obtain ⟨G, hGe⟩ : ∃ G, G = wr.heap.size := ⟨_, rfl⟩
      rw [← hGe] at G2 ⊢
      clear hGe hlow
      obtain ⟨iE, hiE, hzE, hsE, hbE⟩ := info_parts infoNodes
      go_wp2
      go_loopw [6] (fun n wx => ∃ (n' : Nat) (us : List Value), n' ≤ k ∧ n = .int .i64 n' ∧ Mar c wx ∧ Gs c G us n' 64 (fun j => marks c.mq j (c.ns j + 64)) wx) (fun n _ => k - (intOf n).toNat)
      case atStart => exact ⟨0, _, by omega, rfl, M2.out, G2.out⟩
      case round =>
        obtain ⟨n, us, hnk, rfl, hM, hG⟩ := hrel
        have M3 := Kept.mk hM
        have G3 := Kept.mk hG
        clear hM hG
        by_cases hlt : n < k
        · obtain ⟨v, hv⟩ := M3.out.1.get (j := n) (by rw [HK.out]; exact hlt)
          obtain ⟨A, cc, rfl, _⟩ := own_slice (M3.out.2 n v hv)
          have HV := Kept.mk hv
          have hnn := HN.out n
          have l0 : wr.cell? ⟨B, n, none⟩ = some (.slice A (c.ns n) cc) := LS.out _ _ _ M3.out.1 hv
          have i0 : (0 : Int) ≤ (n : Int) := by omega
          have i1 : (n : Int) < (k : Int) := by omega
          clear hv
          obtain ⟨wo, rfl⟩ : ∃ wo : World, wo = wr := ⟨_, rfl⟩
          go_wp2
          go_loopw [7, 8] (fun u i wx => ∃ i' : Nat, i' ≤ 64 ∧ i = .int .i64 i' ∧ Mar c wx ∧ Gs c G us n 64 (fun j => marks c.mq j (c.ns j + 64)) wx ∧ Now c us n u ∧ wx.ownsRow c.B0 c.E c.sz u (c.ns n + i') (marks c.mq n (c.ns n + i'))) (fun _ i _ => 64 - (intOf i).toNat)
          case atStart => exact ⟨0, by omega, rfl, M3.out, G3.out, Now.first HC.out G3.out HV.out, M3.out.2 n _ HV.out⟩
          case round =>
            obtain ⟨i, hi, rfl, hM, hG, hNow, hU⟩ := hrel
            have M4 := Kept.mk hM
            have G4 := Kept.mk hG
            have N4 := Kept.mk hNow
            have U4 := Kept.mk hU
            have l1 : wr.cell? ⟨B, n, none⟩ = some (.slice A (c.ns n) cc) := LS.out _ _ _ hM.1 HV.out
            clear hM hG hNow hU
            by_cases hlt2 : i < 64
            · as_aux_lemma =>
              have i2 : (0 : Int) ≤ (i : Int) := by omega
              have i3 : (i : Int) < 64 := by omega
              have i4 : (i : Int) ≤ 64 := by omega
              go_wp2_with (fail)
              refine (markNodes_any (n) ((c.ns n : Int) + i) _ (by omega) (by omega) (by omega) (by omega)).mono ?_; rintro e w1 ⟨rfl, hb1⟩
              have M5 := Kept.mk (M4.out.below HC.out hb1)
              have G5 := Kept.mk (G4.out.below hb1)
              have U5 := Kept.mk (own_below U4.out hb1)
              have hlow : B0 ≤ w1.heap.size + 1 := by have h1 := M5.out.1.1.size; rw [HW.out] at h1; omega
              clear hb1
              have A5 : Kept (Below w1.heap.size w1 (w1.alloc (.cells #[.int .u8 0, .string ⟨#[]⟩, .string ⟨#[]⟩, .int .i64 (mkI n ((c.ns n : Int) + i))] 47))) := ⟨(Below.refl _ _).alloc (Nat.le_refl _) _⟩
              have M6 := Kept.mk (M5.out.below HC.out A5.out)
              have G6 := Kept.mk (G5.out.below A5.out)
              have U6 := Kept.mk (own_below U5.out A5.out)
              have U7 : Kept ((w1.alloc (.cells #[.int .u8 0, .string ⟨#[]⟩, .string ⟨#[]⟩, .int .i64 (mkI n ((c.ns n : Int) + i))] 47)).ownsRow B0 47 4 u7 (c.ns n + i) (marks c.mq n (c.ns n + i))) := ⟨by have h := U6.out; rw [HB0.out, HE.out, HZ.out] at h; exact h⟩
              go_wp2_with (at_builtin; refine wpList_append_share _ rfl (.tmp 57) (.tmp 67) 22 rfl B0 47 iE (.agg #[.int .u8 0, .string ⟨#[]⟩, .string ⟨#[]⟩, .int .i64 0]) 4 48 Tryz.underlying22 hiE hzE hsE hbE rfl (by decide) u7 (c.ns n + i) (marks c.mq n (c.ns n + i)) (by rfl) U7.out ⟨w1.heap.size, 0, none⟩ 1 1 [.int .u8 0, .string ⟨#[]⟩, .string ⟨#[]⟩, .int .i64 (mkI n ((c.ns n : Int) + i))] (by rfl) (by rfl) (World.news_of_block (heap_alloc_new _ _)) (by intro u hu; simp at hu; rcases hu with rfl | rfl | rfl | rfl <;> rfl) (by unfold maxLen; omega) (by omega) (by simp; omega) ?_; intro v5 w5 hown5 hgrow5 hat5 hsh5; have hX := gather HC.out M6.out G6.out N4.out U6.out (by omega) hgrow5 hat5 (by rw [HE.out, HZ.out]; exact hsh5); have hY : w5.ownsRow c.B0 c.E c.sz v5 (c.ns n + (i + 1)) (marks c.mq n (c.ns n + (i + 1))) := (by rw [HB0.out, HE.out, HZ.out, ← Nat.add_assoc, marks_succ]; have hq : c.mq n (c.ns n + i) = [.int .u8 0, .string ⟨#[]⟩, .string ⟨#[]⟩, .int .i64 (mkI n ((c.ns n : Int) + i))] := (by rw [HM.out]; rfl); rw [hq]; exact hown5); have HX := Kept.mk hX; have HY := Kept.mk hY; clear hX hY hown5 hgrow5 hat5 hsh5)
              go_roundw
              case rel => exact ⟨i + 1, by omega, by go_num, HX.out.1, HX.out.2.1, HX.out.2.2, HY.out⟩
              case measure => simp [intOf]; omega
            · obtain rfl : i = 64 := by omega
              obtain ⟨A7, c7, rfl, _⟩ := own_slice U4.out
              obtain ⟨_, hus, l2⟩ := G4.out.get (j := n) (by rw [HK.out]; exact hlt)
              have f2 : wr.frozen? ⟨G, n, none⟩ = false := own_unfrozen G4.out.own n
              have hst := gs_store HC.out M4.out.1 M4.out.2 G4.out.lt.1 G4.out U4.out N4.out
              have ST := Kept.mk hst
              clear hst hus
              go_wp2
              go_roundw
              case rel => exact ⟨n + 1, _, by omega, by go_num, ⟨ST.out.1, ST.out.2.1⟩, ST.out.2.2⟩
              case measure => simp [intOf]; omega
        · obtain rfl : k = n := by omega
          clear M0 M2 G2
          go_wp2
          go_loopw [9] (fun n wx => ∃ n' : Nat, n' ≤ k ∧ n = .int .i64 n' ∧ Mar c wx ∧ Gs c G us k 64 (fun j => marks c.mq j (c.ns j + 64)) wx) (fun n _ => k - (intOf n).toNat)
          case atStart => exact ⟨0, by omega, rfl, M3.out, G3.out⟩
          case round =>
            obtain ⟨p, hp, rfl, hM, hG⟩ := hrel
            have M3 := Kept.mk hM
            have G3 := Kept.mk hG
            clear hM hG
            by_cases hlt : p < k
            · obtain ⟨v, hv⟩ := M3.out.1.get (j := p) (by rw [HK.out]; exact hlt)
              obtain ⟨A, cc, rfl, _⟩ := own_slice (M3.out.2 p v hv)
              obtain ⟨u, hu, l2⟩ := G3.out.get (j := p) (by rw [HK.out]; exact hlt)
              obtain ⟨A2, c2, rfl, _⟩ := own_slice (G3.out.row p u hlt hu)
              have HV := Kept.mk hv
              have HU := Kept.mk hu
              have hnn := HN.out p
              have l0 : wr.cell? ⟨B, p, none⟩ = some (.slice A (c.ns p) cc) := LS.out _ _ _ M3.out.1 hv
              have i0 : (0 : Int) ≤ (p : Int) := by omega
              have i1 : (p : Int) < (k : Int) := by omega
              clear hv hu
              obtain ⟨wo, rfl⟩ : ∃ wo : World, wo = wr := ⟨_, rfl⟩
              go_wp2
              go_loopw [10] (fun i wx => ∃ i' : Nat, i' ≤ c.ns p + 64 ∧ i = .int .i64 i' ∧ Mar c wx ∧ Gs c G us k 64 (fun j => marks c.mq j (c.ns j + 64)) wx) (fun i _ => c.ns p + 64 - (intOf i).toNat)
              case atStart => exact ⟨0, by omega, rfl, M3.out, G3.out⟩
              case round =>
                obtain ⟨i, hi, rfl, hM, hG⟩ := hrel
                have M4 := Kept.mk hM
                have G4 := Kept.mk hG
                have l1 : wr.cell? ⟨B, p, none⟩ = some (.slice A (c.ns p) cc) := LS.out _ _ _ hM.1 HV.out
                have l3 : wr.cell? ⟨G, p, none⟩ = some (.slice A2 (c.ns p + 64) c2) := own_at hG.own p _ HU.out
                clear hM hG l0 l2
                by_cases hlt2 : i < c.ns p + 64
                · have hlen : ∀ k i, (c.mq k i).length = 4 := fun a b => by rw [HM.out]; rfl
                  have hrow := G4.out.row p _ hlt HU.out
                  rw [HZ.out] at hrow
                  obtain ⟨g2, c2', e, hq⟩ := row_cells (i := i) (ys := []) hlen (by rw [List.append_nil]; exact hrow) hlt2 (by omega)
                  cases e
                  rw [HM.out] at hq
                  have q0 : wr.cell? ⟨g2, i * 4, none⟩ = some (.int .u8 0) := hq 0 _ rfl
                  have q1 : wr.cell? ⟨g2, i * 4 + 1, none⟩ = some (.string ⟨#[]⟩) := hq 1 _ rfl
                  have q2 : wr.cell? ⟨g2, i * 4 + 2, none⟩ = some (.string ⟨#[]⟩) := hq 2 _ rfl
                  have q3 : wr.cell? ⟨g2, i * 4 + 3, none⟩ = some (.int .i64 (mkI p i)) := hq 3 _ rfl
                  clear hq hrow
                  have i2 : (0 : Int) ≤ (i : Int) := by omega
                  have i3 : (i : Int) < ((c.ns p + 64 : Nat) : Int) := by omega
                  have i5 : (i : Int) < ((c.ns p : Nat) : Int) + 64 := by omega
                  have hE := fun wx => eqlM_Nodes (mkI p i) wx
                  by_cases hin : i < c.ns p
                  · as_aux_lemma =>
                    obtain ⟨g, cc', e, hr⟩ := row_cells (i := i) (ys := []) hlen (by rw [List.append_nil]; have := M4.out.2 p _ HV.out; rw [HZ.out] at this; exact this) hin (by omega)
                    cases e
                    rw [HM.out] at hr
                    have r0 : wr.cell? ⟨g, i * 4, none⟩ = some (.int .u8 0) := hr 0 _ rfl
                    have r1 : wr.cell? ⟨g, i * 4 + 1, none⟩ = some (.string ⟨#[]⟩) := hr 1 _ rfl
                    have r2 : wr.cell? ⟨g, i * 4 + 2, none⟩ = some (.string ⟨#[]⟩) := hr 2 _ rfl
                    have r3 : wr.cell? ⟨g, i * 4 + 3, none⟩ = some (.int .i64 (mkI p i)) := hr 3 _ rfl
                    clear hr
                    have i4 : (i : Int) < ((c.ns p : Nat) : Int) := by omega
                    go_wp2_with (fail)
                    refine wp_region_noPanic ?_
                    refine wp_region_held_drew (S := fun wx => wx.cell? ⟨B, p, none⟩ = some (.slice (some ⟨g, 0, none⟩) (c.ns p) cc) ∧ wx.cell? ⟨G, p, none⟩ = some (.slice (some ⟨g2, 0, none⟩) (c.ns p + 64) c2) ∧ wx.cell? ⟨g2, i * 4, none⟩ = some (.int .u8 0) ∧ wx.cell? ⟨g2, i * 4 + 1, none⟩ = some (.string ⟨#[]⟩) ∧ wx.cell? ⟨g2, i * 4 + 2, none⟩ = some (.string ⟨#[]⟩) ∧ wx.cell? ⟨g2, i * 4 + 3, none⟩ = some (.int .i64 (mkI p i)) ∧ wx.cell? ⟨g, i * 4, none⟩ = some (.int .u8 0) ∧ wx.cell? ⟨g, i * 4 + 1, none⟩ = some (.string ⟨#[]⟩) ∧ wx.cell? ⟨g, i * 4 + 2, none⟩ = some (.string ⟨#[]⟩) ∧ wx.cell? ⟨g, i * 4 + 3, none⟩ = some (.int .i64 (mkI p i))) (by as_aux_lemma => kernel_rfl) ⟨l1, l3, q0, q1, q2, q3, r0, r1, r2, r3⟩ (fun hHeld => ?_)
                    refine wpAnyH_take (i := 0) (oi := ⟨_, _, _, _, _, _⟩) (v := ?_) rfl (by as_aux_lemma => kernel_rfl) (by as_aux_lemma => kernel_rfl) (by as_aux_lemma => kernel_rfl) (fun _ _ _ h => h) (Or.inl ⟨by rfl, ?_⟩) (by assumption) ?_
                    rotate_left
                    · (intro w hSw; (try dsimp only at hSw); go_simp; try (with_reducible rfl))
                    try simp only [Act.put, List.setIfInBounds_toArray, List.set_cons_zero, List.set_cons_succ]
                    refine wpAnyH_take (i := 1) (oi := ⟨_, _, _, _, _, _⟩) (v := ?_) rfl (by as_aux_lemma => kernel_rfl) (by as_aux_lemma => kernel_rfl) (by as_aux_lemma => kernel_rfl) (fun _ _ _ h => h) (Or.inl ⟨by rfl, ?_⟩) (by assumption) ?_
                    rotate_left
                    · (intro w hSw; (try dsimp only at hSw); go_simp; try (with_reducible rfl))
                    try simp only [Act.put, List.setIfInBounds_toArray, List.set_cons_zero, List.set_cons_succ]
                    refine wpAnyH_take (i := 2) (oi := ⟨_, _, _, _, _, _⟩) (v := ?_) rfl (by as_aux_lemma => kernel_rfl) (by as_aux_lemma => kernel_rfl) (by as_aux_lemma => kernel_rfl) (fun _ _ _ h => h) (Or.inl ⟨by rfl, ?_⟩) (by assumption) ?_
                    rotate_left
                    · (intro w hSw; (try dsimp only at hSw); go_simp; try (with_reducible rfl))
                    try simp only [Act.put, List.setIfInBounds_toArray, List.set_cons_zero, List.set_cons_succ]
                    refine wpAnyH_take (i := 3) (oi := ⟨_, _, _, _, _, _⟩) (v := ?_) rfl (by as_aux_lemma => kernel_rfl) (by as_aux_lemma => kernel_rfl) (by as_aux_lemma => kernel_rfl) (fun _ _ _ h => h) (Or.inl ⟨by rfl, ?_⟩) (by assumption) ?_
                    rotate_left
                    · (intro w hSw; (try dsimp only at hSw); go_simp; try (with_reducible rfl))
                    try simp only [Act.put, List.setIfInBounds_toArray, List.set_cons_zero, List.set_cons_succ]
                    refine wpAnyH_take (i := 4) (oi := ⟨_, _, _, _, _, _⟩) (v := ?_) rfl (by as_aux_lemma => kernel_rfl) (by as_aux_lemma => kernel_rfl) (by as_aux_lemma => kernel_rfl) (fun _ _ _ h => h) (Or.inl ⟨by rfl, ?_⟩) (by assumption) ?_
                    rotate_left
                    · (intro w hSw; (try dsimp only at hSw); go_simp; try (with_reducible rfl))
                    try simp only [Act.put, List.setIfInBounds_toArray, List.set_cons_zero, List.set_cons_succ]
                    refine wpAnyH_take (i := 5) (oi := ⟨_, _, _, _, _, _⟩) (v := ?_) rfl (by as_aux_lemma => kernel_rfl) (by as_aux_lemma => kernel_rfl) (by as_aux_lemma => kernel_rfl) (fun _ _ _ h => h) (Or.inl ⟨by rfl, ?_⟩) (by assumption) ?_
                    rotate_left
                    · (intro w hSw; (try dsimp only at hSw); go_simp; try (with_reducible rfl))
                    try simp only [Act.put, List.setIfInBounds_toArray, List.set_cons_zero, List.set_cons_succ]
                    refine wpAnyH_take (i := 6) (oi := ⟨_, _, _, _, _, _⟩) (v := ?_) rfl (by as_aux_lemma => kernel_rfl) (by as_aux_lemma => kernel_rfl) (by as_aux_lemma => kernel_rfl) (fun _ _ _ h => h) (Or.inl ⟨by rfl, ?_⟩) (by assumption) ?_
                    rotate_left
                    · (intro w hSw; (try dsimp only at hSw); go_simp; try (with_reducible rfl))
                    try simp only [Act.put, List.setIfInBounds_toArray, List.set_cons_zero, List.set_cons_succ]
                    refine wpAnyH_take (i := 7) (oi := ⟨_, _, _, _, _, _⟩) (v := ?_) rfl (by as_aux_lemma => kernel_rfl) (by as_aux_lemma => kernel_rfl) (by as_aux_lemma => kernel_rfl) (fun _ _ _ h => h) (Or.inl ⟨by rfl, ?_⟩) (by assumption) ?_
                    rotate_left
                    · (intro w hSw; (try dsimp only at hSw); go_simp; try (with_reducible rfl))
                    try simp only [Act.put, List.setIfInBounds_toArray, List.set_cons_zero, List.set_cons_succ]
                    refine wpAnyH_take (i := 8) (oi := ⟨_, _, _, _, _, _⟩) (v := ?_) rfl (by as_aux_lemma => kernel_rfl) (by as_aux_lemma => kernel_rfl) (by as_aux_lemma => kernel_rfl) (fun _ _ _ h => h) (Or.inl ⟨by rfl, ?_⟩) (by assumption) ?_
                    rotate_left
                    · (intro w hSw; (try dsimp only at hSw); go_simp; try (with_reducible rfl))
                    try simp only [Act.put, List.setIfInBounds_toArray, List.set_cons_zero, List.set_cons_succ]
                    refine wpAnyH_ready (rs := [9]) (by as_aux_lemma => kernel_rfl) (by simp) ?_
                    refine AllReadyH.cons (o := ⟨_, _, _, _, _, _⟩) rfl (fun K hK => ?_) AllReadyH.nil
                    go_simp
                    go_at_call 31; refine (markNodes_any (p) (i) _ (by omega) (by omega) (by omega) (by omega)).mono ?_; rintro e w1 ⟨rfl, hb1⟩
                    refine hK.out _ _ ?_ (fun hHeld1 => ?_)
                    · exact ⟨cel_keep (bel_drew hb1) l1, cel_keep (bel_drew hb1) l3, cel_keep (bel_drew hb1) q0, cel_keep (bel_drew hb1) q1, cel_keep (bel_drew hb1) q2, cel_keep (bel_drew hb1) q3, cel_keep (bel_drew hb1) r0, cel_keep (bel_drew hb1) r1, cel_keep (bel_drew hb1) r2, cel_keep (bel_drew hb1) r3⟩
                    clear hK K
                    try simp only [Act.put, List.setIfInBounds_toArray, List.set_cons_zero, List.set_cons_succ]
                    refine wpAnyH_take (i := 10) (oi := ⟨_, _, _, _, _, _⟩) (v := .bool true) rfl (by as_aux_lemma => kernel_rfl) (by as_aux_lemma => kernel_rfl) (by as_aux_lemma => kernel_rfl) (fun _ _ _ h => h) (Or.inl ⟨by rfl, fun w _ => exec_eql _ _ _ _ rfl _ _ _ w rfl rfl eqgM_Nodes (hE w)⟩) (by assumption) ?_
                    try simp only [Act.put, List.setIfInBounds_toArray, List.set_cons_zero, List.set_cons_succ]
                    refine wpAnyH_take (i := 11) (oi := ⟨_, _, _, _, _, _⟩) (v := ?_) rfl (by as_aux_lemma => kernel_rfl) (by as_aux_lemma => kernel_rfl) (by as_aux_lemma => kernel_rfl) (fun _ _ _ h => h) (Or.inl ⟨by rfl, ?_⟩) (by assumption) ?_
                    rotate_left
                    · (intro w hSw; (try dsimp only at hSw); go_simp; try (with_reducible rfl))
                    try simp only [Act.put, List.setIfInBounds_toArray, List.set_cons_zero, List.set_cons_succ]
                    refine wpAnyH_take (i := 12) (oi := ⟨_, _, _, _, _, _⟩) (v := ?_) rfl (by as_aux_lemma => kernel_rfl) (by as_aux_lemma => kernel_rfl) (by as_aux_lemma => kernel_rfl) (fun _ _ _ h => h) (Or.inl ⟨by rfl, ?_⟩) (by assumption) ?_
                    rotate_left
                    · (intro w hSw; (try dsimp only at hSw); go_simp; try (with_reducible rfl))
                    try simp only [Act.put, List.setIfInBounds_toArray, List.set_cons_zero, List.set_cons_succ]
                    refine wpAnyH_take (i := 13) (oi := ⟨_, _, _, _, _, _⟩) (v := ?_) rfl (by as_aux_lemma => kernel_rfl) (by as_aux_lemma => kernel_rfl) (by as_aux_lemma => kernel_rfl) (fun _ _ _ h => h) (Or.inl ⟨by rfl, ?_⟩) (by assumption) ?_
                    rotate_left
                    · (intro w hSw; (try dsimp only at hSw); go_simp; try (with_reducible rfl))
                    try simp only [Act.put, List.setIfInBounds_toArray, List.set_cons_zero, List.set_cons_succ]
                    refine wpAnyH_take (i := 14) (oi := ⟨_, _, _, _, _, _⟩) (v := ?_) rfl (by as_aux_lemma => kernel_rfl) (by as_aux_lemma => kernel_rfl) (by as_aux_lemma => kernel_rfl) (fun _ _ _ h => h) (Or.inl ⟨by rfl, ?_⟩) (by assumption) ?_
                    rotate_left
                    · (intro w hSw; (try dsimp only at hSw); go_simp; try (with_reducible rfl))
                    try simp only [Act.put, List.setIfInBounds_toArray, List.set_cons_zero, List.set_cons_succ]
                    refine wpAnyH_take (i := 15) (oi := ⟨_, _, _, _, _, _⟩) (v := ?_) rfl (by as_aux_lemma => kernel_rfl) (by as_aux_lemma => kernel_rfl) (by as_aux_lemma => kernel_rfl) (fun _ _ _ h => h) (Or.inl ⟨by rfl, ?_⟩) (by assumption) ?_
                    rotate_left
                    · (intro w hSw; (try dsimp only at hSw); go_simp; try (with_reducible rfl))
                    try simp only [Act.put, List.setIfInBounds_toArray, List.set_cons_zero, List.set_cons_succ]
                    refine wpAnyH_take (i := 16) (oi := ⟨_, _, _, _, _, _⟩) (v := ?_) rfl (by as_aux_lemma => kernel_rfl) (by as_aux_lemma => kernel_rfl) (by as_aux_lemma => kernel_rfl) (fun _ _ _ h => h) (Or.inl ⟨by rfl, ?_⟩) (by assumption) ?_
                    rotate_left
                    · (intro w hSw; (try dsimp only at hSw); go_simp; try (with_reducible rfl))
                    try simp only [Act.put, List.setIfInBounds_toArray, List.set_cons_zero, List.set_cons_succ]
                    refine wpAnyH_take (i := 17) (oi := ⟨_, _, _, _, _, _⟩) (v := ?_) rfl (by as_aux_lemma => kernel_rfl) (by as_aux_lemma => kernel_rfl) (by as_aux_lemma => kernel_rfl) (fun _ _ _ h => h) (Or.inl ⟨by rfl, ?_⟩) (by assumption) ?_
                    rotate_left
                    · (intro w hSw; (try dsimp only at hSw); go_simp; try (with_reducible rfl))
                    try simp only [Act.put, List.setIfInBounds_toArray, List.set_cons_zero, List.set_cons_succ]
                    refine wpAnyH_take (i := 18) (oi := ⟨_, _, _, _, _, _⟩) (v := ?_) rfl (by as_aux_lemma => kernel_rfl) (by as_aux_lemma => kernel_rfl) (by as_aux_lemma => kernel_rfl) (fun _ _ _ h => h) (Or.inl ⟨by rfl, ?_⟩) (by assumption) ?_
                    rotate_left
                    · (intro w hSw; (try dsimp only at hSw); go_simp; try (with_reducible rfl))
                    try simp only [Act.put, List.setIfInBounds_toArray, List.set_cons_zero, List.set_cons_succ]
                    refine wpAnyH_take (i := 19) (oi := ⟨_, _, _, _, _, _⟩) (v := ?_) rfl (by as_aux_lemma => kernel_rfl) (by as_aux_lemma => kernel_rfl) (by as_aux_lemma => kernel_rfl) (fun _ _ _ h => h) (Or.inl ⟨by rfl, ?_⟩) (by assumption) ?_
                    rotate_left
                    · (intro w hSw; (try dsimp only at hSw); go_simp; try (with_reducible rfl))
                    try simp only [Act.put, List.setIfInBounds_toArray, List.set_cons_zero, List.set_cons_succ]
                    refine wpAnyH_take (i := 20) (oi := ⟨_, _, _, _, _, _⟩) (v := ?_) rfl (by as_aux_lemma => kernel_rfl) (by as_aux_lemma => kernel_rfl) (by as_aux_lemma => kernel_rfl) (fun _ _ _ h => h) (Or.inl ⟨by rfl, ?_⟩) (by assumption) ?_
                    rotate_left
                    · (intro w hSw; (try dsimp only at hSw); go_simp; try (with_reducible rfl))
                    try simp only [Act.put, List.setIfInBounds_toArray, List.set_cons_zero, List.set_cons_succ]
                    refine wpAnyH_take (i := 21) (oi := ⟨_, _, _, _, _, _⟩) (v := ?_) rfl (by as_aux_lemma => kernel_rfl) (by as_aux_lemma => kernel_rfl) (by as_aux_lemma => kernel_rfl) (fun _ _ _ h => h) (Or.inl ⟨by rfl, ?_⟩) (by assumption) ?_
                    rotate_left
                    · (intro w hSw; (try dsimp only at hSw); go_simp; try (with_reducible rfl))
                    try simp only [Act.put, List.setIfInBounds_toArray, List.set_cons_zero, List.set_cons_succ]
                    refine wpAnyH_take (i := 22) (oi := ⟨_, _, _, _, _, _⟩) (v := ?_) rfl (by as_aux_lemma => kernel_rfl) (by as_aux_lemma => kernel_rfl) (by as_aux_lemma => kernel_rfl) (fun _ _ _ h => h) (Or.inl ⟨by rfl, ?_⟩) (by assumption) ?_
                    rotate_left
                    · (intro w hSw; (try dsimp only at hSw); go_simp; try (with_reducible rfl))
                    try simp only [Act.put, List.setIfInBounds_toArray, List.set_cons_zero, List.set_cons_succ]
                    refine wpAnyH_take (i := 23) (oi := ⟨_, _, _, _, _, _⟩) (v := ?_) rfl (by as_aux_lemma => kernel_rfl) (by as_aux_lemma => kernel_rfl) (by as_aux_lemma => kernel_rfl) (fun _ _ _ h => h) (Or.inl ⟨by rfl, ?_⟩) (by assumption) ?_
                    rotate_left
                    · (intro w hSw; (try dsimp only at hSw); go_simp; try (with_reducible rfl))
                    try simp only [Act.put, List.setIfInBounds_toArray, List.set_cons_zero, List.set_cons_succ]
                    refine wpAnyH_take (i := 24) (oi := ⟨_, _, _, _, _, _⟩) (v := ?_) rfl (by as_aux_lemma => kernel_rfl) (by as_aux_lemma => kernel_rfl) (by as_aux_lemma => kernel_rfl) (fun _ _ _ h => h) (Or.inl ⟨by rfl, ?_⟩) (by assumption) ?_
                    rotate_left
                    · (intro w hSw; (try dsimp only at hSw); go_simp; try (with_reducible rfl))
                    try simp only [Act.put, List.setIfInBounds_toArray, List.set_cons_zero, List.set_cons_succ]
                    refine wpAnyH_take (i := 25) (oi := ⟨_, _, _, _, _, _⟩) (v := ?_) rfl (by as_aux_lemma => kernel_rfl) (by as_aux_lemma => kernel_rfl) (by as_aux_lemma => kernel_rfl) (fun _ _ _ h => h) (Or.inl ⟨by rfl, ?_⟩) (by assumption) ?_
                    rotate_left
                    · (intro w hSw; (try dsimp only at hSw); go_simp; try (with_reducible rfl))
                    try simp only [Act.put, List.setIfInBounds_toArray, List.set_cons_zero, List.set_cons_succ]
                    refine wpAnyH_take (i := 26) (oi := ⟨_, _, _, _, _, _⟩) (v := ?_) rfl (by as_aux_lemma => kernel_rfl) (by as_aux_lemma => kernel_rfl) (by as_aux_lemma => kernel_rfl) (fun _ _ _ h => h) (Or.inl ⟨by rfl, ?_⟩) (by assumption) ?_
                    rotate_left
                    · (intro w hSw; (try dsimp only at hSw); go_simp; try (with_reducible rfl))
                    try simp only [Act.put, List.setIfInBounds_toArray, List.set_cons_zero, List.set_cons_succ]
                    refine wpAnyH_take (i := 27) (oi := ⟨_, _, _, _, _, _⟩) (v := ?_) rfl (by as_aux_lemma => kernel_rfl) (by as_aux_lemma => kernel_rfl) (by as_aux_lemma => kernel_rfl) (fun _ _ _ h => h) (Or.inl ⟨by rfl, ?_⟩) (by assumption) ?_
                    rotate_left
                    · (intro w hSw; (try dsimp only at hSw); go_simp; try (with_reducible rfl))
                    try simp only [Act.put, List.setIfInBounds_toArray, List.set_cons_zero, List.set_cons_succ]
                    refine wpAnyH_take (i := 28) (oi := ⟨_, _, _, _, _, _⟩) (v := ?_) rfl (by as_aux_lemma => kernel_rfl) (by as_aux_lemma => kernel_rfl) (by as_aux_lemma => kernel_rfl) (fun _ _ _ h => h) (Or.inl ⟨by rfl, ?_⟩) (by assumption) ?_
                    rotate_left
                    · (intro w hSw; (try dsimp only at hSw); go_simp; try (with_reducible rfl))
                    try simp only [Act.put, List.setIfInBounds_toArray, List.set_cons_zero, List.set_cons_succ]
                    refine wpAnyH_take (i := 29) (oi := ⟨_, _, _, _, _, _⟩) (v := ?_) rfl (by as_aux_lemma => kernel_rfl) (by as_aux_lemma => kernel_rfl) (by as_aux_lemma => kernel_rfl) (fun _ _ _ h => h) (Or.inl ⟨by rfl, ?_⟩) (by assumption) ?_
                    rotate_left
                    · (intro w hSw; (try dsimp only at hSw); go_simp; try (with_reducible rfl))
                    try simp only [Act.put, List.setIfInBounds_toArray, List.set_cons_zero, List.set_cons_succ]
                    refine wpAnyH_ready (rs := [30]) (by as_aux_lemma => kernel_rfl) (by simp) ?_
                    refine AllReadyH.cons (o := ⟨_, _, _, _, _, _⟩) rfl (fun K hK => ?_) AllReadyH.nil
                    go_simp
                    go_at_call 31; refine (markNodes_any (p) (i) _ (by omega) (by omega) (by omega) (by omega)).mono ?_; rintro e w2 ⟨rfl, hb2⟩
                    refine hK.out _ _ ?_ (fun hHeld2 => ?_)
                    · exact ⟨cel_keep hb2 hHeld1.1, cel_keep hb2 hHeld1.2.1, cel_keep hb2 hHeld1.2.2.1, cel_keep hb2 hHeld1.2.2.2.1, cel_keep hb2 hHeld1.2.2.2.2.1, cel_keep hb2 hHeld1.2.2.2.2.2.1, cel_keep hb2 hHeld1.2.2.2.2.2.2.1, cel_keep hb2 hHeld1.2.2.2.2.2.2.2.1, cel_keep hb2 hHeld1.2.2.2.2.2.2.2.2.1, cel_keep hb2 hHeld1.2.2.2.2.2.2.2.2.2⟩
                    clear hK K
                    try simp only [Act.put, List.setIfInBounds_toArray, List.set_cons_zero, List.set_cons_succ]
                    refine wpAnyH_take (i := 31) (oi := ⟨_, _, _, _, _, _⟩) (v := .bool true) rfl (by as_aux_lemma => kernel_rfl) (by as_aux_lemma => kernel_rfl) (by as_aux_lemma => kernel_rfl) (fun _ _ _ h => h) (Or.inl ⟨by rfl, fun w _ => exec_eql _ _ _ _ rfl _ _ _ w rfl rfl eqgM_Nodes (hE w)⟩) (by assumption) ?_
                    try simp only [Act.put, List.setIfInBounds_toArray, List.set_cons_zero, List.set_cons_succ]
                    refine wpAnyH_take (i := 32) (oi := ⟨_, _, _, _, _, _⟩) (v := ?_) rfl (by as_aux_lemma => kernel_rfl) (by as_aux_lemma => kernel_rfl) (by as_aux_lemma => kernel_rfl) (fun _ _ _ h => h) (Or.inl ⟨by rfl, ?_⟩) (by assumption) ?_
                    rotate_left
                    · (intro w hSw; (try dsimp only at hSw); go_simp; try (with_reducible rfl))
                    try simp only [Act.put, List.setIfInBounds_toArray, List.set_cons_zero, List.set_cons_succ]
                    refine wpAnyH_take (i := 33) (oi := ⟨_, _, _, _, _, _⟩) (v := ?_) rfl (by as_aux_lemma => kernel_rfl) (by as_aux_lemma => kernel_rfl) (by as_aux_lemma => kernel_rfl) (fun _ _ _ h => h) (Or.inl ⟨by rfl, ?_⟩) (by assumption) ?_
                    rotate_left
                    · (intro w hSw; (try dsimp only at hSw); go_simp; try (with_reducible rfl))
                    try simp only [Act.put, List.setIfInBounds_toArray, List.set_cons_zero, List.set_cons_succ]
                    refine wpAnyH_take (i := 34) (oi := ⟨_, _, _, _, _, _⟩) (v := ?_) rfl (by as_aux_lemma => kernel_rfl) (by as_aux_lemma => kernel_rfl) (by as_aux_lemma => kernel_rfl) (fun _ _ _ h => h) (Or.inl ⟨by rfl, ?_⟩) (by assumption) ?_
                    rotate_left
                    · (intro w hSw; (try dsimp only at hSw); go_simp; try (with_reducible rfl))
                    try simp only [Act.put, List.setIfInBounds_toArray, List.set_cons_zero, List.set_cons_succ]
                    refine wpAnyH_done (by as_aux_lemma => kernel_rfl) ?_ _
                    refine NoPanic.normal ?_
                    have hS : Below wr.heap.size wr w2 := bel_step (bel_drew hb1) hb2
                    have M5 := Kept.mk (M4.out.below HC.out hS)
                    have G5 := Kept.mk (G4.out.below hS)
                    clear hS hb1
                    go_wp2
                    go_roundw
                    case rel => exact ⟨i + 1, by omega, by go_num, M5.out, G5.out⟩
                    case measure => simp [intOf]; omega
                  · as_aux_lemma =>
                    have i4 : decide ((i : Int) < ((c.ns p : Nat) : Int)) = false := decide_eq_false (by omega)
                    go_wp2_with (fail)
                    refine wp_region_noPanic ?_
                    refine wp_region_held_drew (S := fun wx => wx.cell? ⟨B, p, none⟩ = some (.slice A (c.ns p) cc) ∧ wx.cell? ⟨G, p, none⟩ = some (.slice (some ⟨g2, 0, none⟩) (c.ns p + 64) c2) ∧ wx.cell? ⟨g2, i * 4, none⟩ = some (.int .u8 0) ∧ wx.cell? ⟨g2, i * 4 + 1, none⟩ = some (.string ⟨#[]⟩) ∧ wx.cell? ⟨g2, i * 4 + 2, none⟩ = some (.string ⟨#[]⟩) ∧ wx.cell? ⟨g2, i * 4 + 3, none⟩ = some (.int .i64 (mkI p i))) (by as_aux_lemma => kernel_rfl) ⟨l1, l3, q0, q1, q2, q3⟩ (fun hHeld => ?_)
                    refine wpAnyH_take (i := 0) (oi := ⟨_, _, _, _, _, _⟩) (v := ?_) rfl (by as_aux_lemma => kernel_rfl) (by as_aux_lemma => kernel_rfl) (by as_aux_lemma => kernel_rfl) (fun _ _ _ h => h) (Or.inl ⟨by rfl, ?_⟩) (by assumption) ?_
                    rotate_left
                    · (intro w hSw; (try dsimp only at hSw); go_simp; try (with_reducible rfl))
                    try simp only [Act.put, List.setIfInBounds_toArray, List.set_cons_zero, List.set_cons_succ]
                    refine wpAnyH_take (i := 1) (oi := ⟨_, _, _, _, _, _⟩) (v := ?_) rfl (by as_aux_lemma => kernel_rfl) (by as_aux_lemma => kernel_rfl) (by as_aux_lemma => kernel_rfl) (fun _ _ _ h => h) (Or.inl ⟨by rfl, ?_⟩) (by assumption) ?_
                    rotate_left
                    · (intro w hSw; (try dsimp only at hSw); go_simp; try (with_reducible rfl))
                    try simp only [Act.put, List.setIfInBounds_toArray, List.set_cons_zero, List.set_cons_succ]
                    refine wpAnyH_take (i := 2) (oi := ⟨_, _, _, _, _, _⟩) (v := ?_) rfl (by as_aux_lemma => kernel_rfl) (by as_aux_lemma => kernel_rfl) (by as_aux_lemma => kernel_rfl) (fun _ _ _ h => h) (Or.inl ⟨by rfl, ?_⟩) (by assumption) ?_
                    rotate_left
                    · (intro w hSw; (try dsimp only at hSw); go_simp; try (with_reducible rfl))
                    try simp only [Act.put, List.setIfInBounds_toArray, List.set_cons_zero, List.set_cons_succ]
                    refine wpAnyH_take (i := 3) (oi := ⟨_, _, _, _, _, _⟩) (v := ?_) rfl (by as_aux_lemma => kernel_rfl) (by as_aux_lemma => kernel_rfl) (by as_aux_lemma => kernel_rfl) (fun _ _ _ h => h) (Or.inl ⟨by rfl, ?_⟩) (by assumption) ?_
                    rotate_left
                    · (intro w hSw; (try dsimp only at hSw); go_simp; try (with_reducible rfl))
                    try simp only [Act.put, List.setIfInBounds_toArray, List.set_cons_zero, List.set_cons_succ]
                    refine wpAnyH_take (i := 4) (oi := ⟨_, _, _, _, _, _⟩) (v := ?_) rfl (by as_aux_lemma => kernel_rfl) (by as_aux_lemma => kernel_rfl) (by as_aux_lemma => kernel_rfl) (fun _ _ _ h => h) (Or.inl ⟨by rfl, ?_⟩) (by assumption) ?_
                    rotate_left
                    · (intro w hSw; (try dsimp only at hSw); go_simp; try (with_reducible rfl))
                    try simp only [Act.put, List.setIfInBounds_toArray, List.set_cons_zero, List.set_cons_succ]
                    refine wpAnyH_take (i := 5) (oi := ⟨_, _, _, _, _, _⟩) (v := ?_) rfl (by as_aux_lemma => kernel_rfl) (by as_aux_lemma => kernel_rfl) (by as_aux_lemma => kernel_rfl) (fun _ _ _ h => h) (Or.inl ⟨by rfl, ?_⟩) (by assumption) ?_
                    rotate_left
                    · (intro w hSw; (try dsimp only at hSw); go_simp; try (with_reducible rfl))
                    try simp only [Act.put, List.setIfInBounds_toArray, List.set_cons_zero, List.set_cons_succ]
                    refine wpAnyH_take (i := 6) (oi := ⟨_, _, _, _, _, _⟩) (v := ?_) rfl (by as_aux_lemma => kernel_rfl) (by as_aux_lemma => kernel_rfl) (by as_aux_lemma => kernel_rfl) (fun _ _ _ h => h) (Or.inl ⟨by rfl, ?_⟩) (by assumption) ?_
                    rotate_left
                    · (intro w hSw; (try dsimp only at hSw); go_simp; try (with_reducible rfl))
                    try simp only [Act.put, List.setIfInBounds_toArray, List.set_cons_zero, List.set_cons_succ]
                    refine wpAnyH_take (i := 7) (oi := ⟨_, _, _, _, _, _⟩) (v := ?_) rfl (by as_aux_lemma => kernel_rfl) (by as_aux_lemma => kernel_rfl) (by as_aux_lemma => kernel_rfl) (fun _ _ _ h => h) (Or.inl ⟨by rfl, ?_⟩) (by assumption) ?_
                    rotate_left
                    · (intro w hSw; (try dsimp only at hSw); go_simp; try (with_reducible rfl))
                    try simp only [Act.put, List.setIfInBounds_toArray, List.set_cons_zero, List.set_cons_succ]
                    refine wpAnyH_take (i := 8) (oi := ⟨_, _, _, _, _, _⟩) (v := ?_) rfl (by as_aux_lemma => kernel_rfl) (by as_aux_lemma => kernel_rfl) (by as_aux_lemma => kernel_rfl) (fun _ _ _ h => h) (Or.inl ⟨by rfl, ?_⟩) (by assumption) ?_
                    rotate_left
                    · (intro w hSw; (try dsimp only at hSw); go_simp; try (with_reducible rfl))
                    try simp only [Act.put, List.setIfInBounds_toArray, List.set_cons_zero, List.set_cons_succ]
                    refine wpAnyH_ready (rs := [9]) (by as_aux_lemma => kernel_rfl) (by simp) ?_
                    refine AllReadyH.cons (o := ⟨_, _, _, _, _, _⟩) rfl (fun K hK => ?_) AllReadyH.nil
                    go_simp
                    go_at_call 31; refine (markNodes_any (p) (i) _ (by omega) (by omega) (by omega) (by omega)).mono ?_; rintro e w1 ⟨rfl, hb1⟩
                    refine hK.out _ _ ?_ (fun hHeld1 => ?_)
                    · exact ⟨cel_keep (bel_drew hb1) l1, cel_keep (bel_drew hb1) l3, cel_keep (bel_drew hb1) q0, cel_keep (bel_drew hb1) q1, cel_keep (bel_drew hb1) q2, cel_keep (bel_drew hb1) q3⟩
                    clear hK K
                    try simp only [Act.put, List.setIfInBounds_toArray, List.set_cons_zero, List.set_cons_succ]
                    refine wpAnyH_take (i := 10) (oi := ⟨_, _, _, _, _, _⟩) (v := .bool true) rfl (by as_aux_lemma => kernel_rfl) (by as_aux_lemma => kernel_rfl) (by as_aux_lemma => kernel_rfl) (fun _ _ _ h => h) (Or.inl ⟨by rfl, fun w _ => exec_eql _ _ _ _ rfl _ _ _ w rfl rfl eqgM_Nodes (hE w)⟩) (by assumption) ?_
                    try simp only [Act.put, List.setIfInBounds_toArray, List.set_cons_zero, List.set_cons_succ]
                    refine wpAnyH_take (i := 11) (oi := ⟨_, _, _, _, _, _⟩) (v := ?_) rfl (by as_aux_lemma => kernel_rfl) (by as_aux_lemma => kernel_rfl) (by as_aux_lemma => kernel_rfl) (fun _ _ _ h => h) (Or.inl ⟨by rfl, ?_⟩) (by assumption) ?_
                    rotate_left
                    · (intro w hSw; (try dsimp only at hSw); go_simp; try (with_reducible rfl))
                    try simp only [Act.put, List.setIfInBounds_toArray, List.set_cons_zero, List.set_cons_succ]
                    refine wpAnyH_take (i := 12) (oi := ⟨_, _, _, _, _, _⟩) (v := ?_) rfl (by as_aux_lemma => kernel_rfl) (by as_aux_lemma => kernel_rfl) (by as_aux_lemma => kernel_rfl) (fun _ _ _ h => h) (Or.inl ⟨by rfl, ?_⟩) (by assumption) ?_
                    rotate_left
                    · (intro w hSw; (try dsimp only at hSw); go_simp; try (with_reducible rfl))
                    try simp only [Act.put, List.setIfInBounds_toArray, List.set_cons_zero, List.set_cons_succ]
                    refine wpAnyH_take (i := 13) (oi := ⟨_, _, _, _, _, _⟩) (v := ?_) rfl (by as_aux_lemma => kernel_rfl) (by as_aux_lemma => kernel_rfl) (by as_aux_lemma => kernel_rfl) (fun _ _ _ h => h) (Or.inl ⟨by rfl, ?_⟩) (by assumption) ?_
                    rotate_left
                    · (intro w hSw; (try dsimp only at hSw); go_simp; try (with_reducible rfl))
                    try simp only [Act.put, List.setIfInBounds_toArray, List.set_cons_zero, List.set_cons_succ]
                    refine wpAnyH_take (i := 14) (oi := ⟨_, _, _, _, _, _⟩) (v := ?_) rfl (by as_aux_lemma => kernel_rfl) (by as_aux_lemma => kernel_rfl) (by as_aux_lemma => kernel_rfl) (fun _ _ _ h => h) (Or.inl ⟨by rfl, ?_⟩) (by assumption) ?_
                    rotate_left
                    · (intro w hSw; (try dsimp only at hSw); go_simp; try (with_reducible rfl))
                    try simp only [Act.put, List.setIfInBounds_toArray, List.set_cons_zero, List.set_cons_succ]
                    refine wpAnyH_take (i := 15) (oi := ⟨_, _, _, _, _, _⟩) (v := ?_) rfl (by as_aux_lemma => kernel_rfl) (by as_aux_lemma => kernel_rfl) (by as_aux_lemma => kernel_rfl) (fun _ _ _ h => h) (Or.inl ⟨by rfl, ?_⟩) (by assumption) ?_
                    rotate_left
                    · (intro w hSw; (try dsimp only at hSw); go_simp; try (with_reducible rfl))
                    try simp only [Act.put, List.setIfInBounds_toArray, List.set_cons_zero, List.set_cons_succ]
                    refine wpAnyH_take (i := 16) (oi := ⟨_, _, _, _, _, _⟩) (v := ?_) rfl (by as_aux_lemma => kernel_rfl) (by as_aux_lemma => kernel_rfl) (by as_aux_lemma => kernel_rfl) (fun _ _ _ h => h) (Or.inl ⟨by rfl, ?_⟩) (by assumption) ?_
                    rotate_left
                    · (intro w hSw; (try dsimp only at hSw); go_simp; try (with_reducible rfl))
                    try simp only [Act.put, List.setIfInBounds_toArray, List.set_cons_zero, List.set_cons_succ]
                    refine wpAnyH_take (i := 17) (oi := ⟨_, _, _, _, _, _⟩) (v := ?_) rfl (by as_aux_lemma => kernel_rfl) (by as_aux_lemma => kernel_rfl) (by as_aux_lemma => kernel_rfl) (fun _ _ _ h => h) (Or.inl ⟨by rfl, ?_⟩) (by assumption) ?_
                    rotate_left
                    · (intro w hSw; (try dsimp only at hSw); go_simp; try (with_reducible rfl))
                    try simp only [Act.put, List.setIfInBounds_toArray, List.set_cons_zero, List.set_cons_succ]
                    refine wpAnyH_take (i := 18) (oi := ⟨_, _, _, _, _, _⟩) (v := ?_) rfl (by as_aux_lemma => kernel_rfl) (by as_aux_lemma => kernel_rfl) (by as_aux_lemma => kernel_rfl) (fun _ _ _ h => h) (Or.inl ⟨by rfl, ?_⟩) (by assumption) ?_
                    rotate_left
                    · (intro w hSw; (try dsimp only at hSw); go_simp; try (with_reducible rfl))
                    try simp only [Act.put, List.setIfInBounds_toArray, List.set_cons_zero, List.set_cons_succ]
                    refine wpAnyH_take (i := 19) (oi := ⟨_, _, _, _, _, _⟩) (v := ?_) rfl (by as_aux_lemma => kernel_rfl) (by as_aux_lemma => kernel_rfl) (by as_aux_lemma => kernel_rfl) (fun _ _ _ h => h) (Or.inl ⟨by rfl, ?_⟩) (by assumption) ?_
                    rotate_left
                    · (intro w hSw; (try dsimp only at hSw); go_simp; try (with_reducible rfl))
                    try simp only [Act.put, List.setIfInBounds_toArray, List.set_cons_zero, List.set_cons_succ]
                    refine wpAnyH_take (i := 20) (oi := ⟨_, _, _, _, _, _⟩) (v := ?_) rfl (by as_aux_lemma => kernel_rfl) (by as_aux_lemma => kernel_rfl) (by as_aux_lemma => kernel_rfl) (fun _ _ _ h => h) (Or.inl ⟨by rfl, ?_⟩) (by assumption) ?_
                    rotate_left
                    · (intro w hSw; (try dsimp only at hSw); go_simp; try (with_reducible rfl))
                    try simp only [Act.put, List.setIfInBounds_toArray, List.set_cons_zero, List.set_cons_succ]
                    refine wpAnyH_take (i := 21) (oi := ⟨_, _, _, _, _, _⟩) (v := undef) rfl (by as_aux_lemma => kernel_rfl) (by as_aux_lemma => kernel_rfl) (by as_aux_lemma => kernel_rfl) (fun _ _ _ h => h) (Or.inr ⟨by rfl, rfl⟩) (by assumption) ?_
                    try simp only [Act.put, List.setIfInBounds_toArray, List.set_cons_zero, List.set_cons_succ]
                    refine wpAnyH_take (i := 22) (oi := ⟨_, _, _, _, _, _⟩) (v := undef) rfl (by as_aux_lemma => kernel_rfl) (by as_aux_lemma => kernel_rfl) (by as_aux_lemma => kernel_rfl) (fun _ _ _ h => h) (Or.inr ⟨by rfl, rfl⟩) (by assumption) ?_
                    try simp only [Act.put, List.setIfInBounds_toArray, List.set_cons_zero, List.set_cons_succ]
                    refine wpAnyH_take (i := 23) (oi := ⟨_, _, _, _, _, _⟩) (v := undef) rfl (by as_aux_lemma => kernel_rfl) (by as_aux_lemma => kernel_rfl) (by as_aux_lemma => kernel_rfl) (fun _ _ _ h => h) (Or.inr ⟨by rfl, rfl⟩) (by assumption) ?_
                    try simp only [Act.put, List.setIfInBounds_toArray, List.set_cons_zero, List.set_cons_succ]
                    refine wpAnyH_take (i := 24) (oi := ⟨_, _, _, _, _, _⟩) (v := undef) rfl (by as_aux_lemma => kernel_rfl) (by as_aux_lemma => kernel_rfl) (by as_aux_lemma => kernel_rfl) (fun _ _ _ h => h) (Or.inr ⟨by rfl, rfl⟩) (by assumption) ?_
                    try simp only [Act.put, List.setIfInBounds_toArray, List.set_cons_zero, List.set_cons_succ]
                    refine wpAnyH_take (i := 25) (oi := ⟨_, _, _, _, _, _⟩) (v := undef) rfl (by as_aux_lemma => kernel_rfl) (by as_aux_lemma => kernel_rfl) (by as_aux_lemma => kernel_rfl) (fun _ _ _ h => h) (Or.inr ⟨by rfl, rfl⟩) (by assumption) ?_
                    try simp only [Act.put, List.setIfInBounds_toArray, List.set_cons_zero, List.set_cons_succ]
                    refine wpAnyH_take (i := 26) (oi := ⟨_, _, _, _, _, _⟩) (v := undef) rfl (by as_aux_lemma => kernel_rfl) (by as_aux_lemma => kernel_rfl) (by as_aux_lemma => kernel_rfl) (fun _ _ _ h => h) (Or.inr ⟨by rfl, rfl⟩) (by assumption) ?_
                    try simp only [Act.put, List.setIfInBounds_toArray, List.set_cons_zero, List.set_cons_succ]
                    refine wpAnyH_take (i := 27) (oi := ⟨_, _, _, _, _, _⟩) (v := undef) rfl (by as_aux_lemma => kernel_rfl) (by as_aux_lemma => kernel_rfl) (by as_aux_lemma => kernel_rfl) (fun _ _ _ h => h) (Or.inr ⟨by rfl, rfl⟩) (by assumption) ?_
                    try simp only [Act.put, List.setIfInBounds_toArray, List.set_cons_zero, List.set_cons_succ]
                    refine wpAnyH_take (i := 28) (oi := ⟨_, _, _, _, _, _⟩) (v := undef) rfl (by as_aux_lemma => kernel_rfl) (by as_aux_lemma => kernel_rfl) (by as_aux_lemma => kernel_rfl) (fun _ _ _ h => h) (Or.inr ⟨by rfl, rfl⟩) (by assumption) ?_
                    try simp only [Act.put, List.setIfInBounds_toArray, List.set_cons_zero, List.set_cons_succ]
                    refine wpAnyH_take (i := 29) (oi := ⟨_, _, _, _, _, _⟩) (v := undef) rfl (by as_aux_lemma => kernel_rfl) (by as_aux_lemma => kernel_rfl) (by as_aux_lemma => kernel_rfl) (fun _ _ _ h => h) (Or.inr ⟨by rfl, rfl⟩) (by assumption) ?_
                    try simp only [Act.put, List.setIfInBounds_toArray, List.set_cons_zero, List.set_cons_succ]
                    refine wpAnyH_take (i := 30) (oi := ⟨_, _, _, _, _, _⟩) (v := undef) rfl (by as_aux_lemma => kernel_rfl) (by as_aux_lemma => kernel_rfl) (by as_aux_lemma => kernel_rfl) (fun _ _ _ h => h) (Or.inr ⟨by rfl, rfl⟩) (by assumption) ?_
                    try simp only [Act.put, List.setIfInBounds_toArray, List.set_cons_zero, List.set_cons_succ]
                    refine wpAnyH_take (i := 31) (oi := ⟨_, _, _, _, _, _⟩) (v := undef) rfl (by as_aux_lemma => kernel_rfl) (by as_aux_lemma => kernel_rfl) (by as_aux_lemma => kernel_rfl) (fun _ _ _ h => h) (Or.inr ⟨by rfl, rfl⟩) (by assumption) ?_
                    try simp only [Act.put, List.setIfInBounds_toArray, List.set_cons_zero, List.set_cons_succ]
                    refine wpAnyH_take (i := 32) (oi := ⟨_, _, _, _, _, _⟩) (v := undef) rfl (by as_aux_lemma => kernel_rfl) (by as_aux_lemma => kernel_rfl) (by as_aux_lemma => kernel_rfl) (fun _ _ _ h => h) (Or.inr ⟨by rfl, rfl⟩) (by assumption) ?_
                    try simp only [Act.put, List.setIfInBounds_toArray, List.set_cons_zero, List.set_cons_succ]
                    refine wpAnyH_take (i := 33) (oi := ⟨_, _, _, _, _, _⟩) (v := ?_) rfl (by as_aux_lemma => kernel_rfl) (by as_aux_lemma => kernel_rfl) (by as_aux_lemma => kernel_rfl) (fun _ _ _ h => h) (Or.inl ⟨by rfl, ?_⟩) (by assumption) ?_
                    rotate_left
                    · (intro w hSw; (try dsimp only at hSw); go_simp; try (with_reducible rfl))
                    try simp only [Act.put, List.setIfInBounds_toArray, List.set_cons_zero, List.set_cons_succ]
                    refine wpAnyH_take (i := 34) (oi := ⟨_, _, _, _, _, _⟩) (v := ?_) rfl (by as_aux_lemma => kernel_rfl) (by as_aux_lemma => kernel_rfl) (by as_aux_lemma => kernel_rfl) (fun _ _ _ h => h) (Or.inl ⟨by rfl, ?_⟩) (by assumption) ?_
                    rotate_left
                    · (intro w hSw; (try dsimp only at hSw); go_simp; try (with_reducible rfl))
                    try simp only [Act.put, List.setIfInBounds_toArray, List.set_cons_zero, List.set_cons_succ]
                    refine wpAnyH_done (by as_aux_lemma => kernel_rfl) ?_ _
                    refine NoPanic.normal ?_
                    have hS : Below wr.heap.size wr w1 := bel_drew hb1
                    have M5 := Kept.mk (M4.out.below HC.out hS)
                    have G5 := Kept.mk (G4.out.below hS)
                    clear hS hb1
                    go_wp2
                    go_roundw
                    case rel => exact ⟨i + 1, by omega, by go_num, M5.out, G5.out⟩
                    case measure => simp [intOf]; omega
                · obtain rfl : i = c.ns p + 64 := by omega
                  go_wp2
                  go_roundw
                  case rel => exact ⟨p + 1, by omega, by go_num, M4.out, G4.out⟩
                  case measure => simp [intOf]; omega
            · obtain rfl : k = p := by omega
              have G4 := Kept.mk (G3.out.reset (m' := 64) (ys' := fun j => marks c.mq j (c.ns j) ++ marks c.mq (j + k) 64))
              clear G3
              -- MARK4
              go_wp2
              go_loopw [11] (fun n wx => ∃ (n' : Nat) (us : List Value), n' ≤ k ∧ n = .int .i64 n' ∧ Mar c wx ∧ Gs c G us n' 64 (fun j => marks c.mq j (c.ns j) ++ marks c.mq (j + k) 64) wx) (fun n _ => k - (intOf n).toNat)
              case atStart => exact ⟨0, _, by omega, rfl, M3.out, G4.out⟩
              case round =>
                obtain ⟨n, us, hnk, rfl, hM, hG⟩ := hrel
                have M3 := Kept.mk hM
                have G3 := Kept.mk hG
                clear hM hG
                by_cases hlt : n < k
                · obtain ⟨v, hv⟩ := M3.out.1.get (j := n) (by rw [HK.out]; exact hlt)
                  obtain ⟨A, cc, rfl, _⟩ := own_slice (M3.out.2 n v hv)
                  have HV := Kept.mk hv
                  have hnn := HN.out n
                  have l0 : wr.cell? ⟨B, n, none⟩ = some (.slice A (c.ns n) cc) := LS.out _ _ _ M3.out.1 hv
                  have i0 : (0 : Int) ≤ (n : Int) := by omega
                  have i1 : (n : Int) < (k : Int) := by omega
                  have hlow : B0 ≤ wr.heap.size := by have h1 := M3.out.1.1.size; rw [HW.out] at h1; exact Nat.le_trans hB0 h1
                  have FR := Kept.mk (Free.new HC.out M3.out G3.out)
                  clear hv
                  obtain ⟨wo, rfl⟩ : ∃ wo : World, wo = wr := ⟨_, rfl⟩
                  go_wp2_with (at_make; refine wpList_make_full _ rfl _ _ 22 rfl B0 47 iE (.agg #[.int .u8 0, .string ⟨#[]⟩, .string ⟨#[]⟩, .int .i64 0]) 4 Tryz.underlying22 hiE hzE hsE .i64 .i64 _ _ 64 (by rfl) (by rfl) (by rfl) (by rfl) (by rw [hbE]; omega) (by decide) hlow ?_; intro w2 hown2 hgrow2; have hb2 := below_of_grown hgrow2; have M4 := Kept.mk (M3.out.below HC.out hb2); have G4 := Kept.mk (G3.out.below hb2); have O4 := Kept.mk hown2; clear hown2 hgrow2 hb2)
                  obtain ⟨X, hXe⟩ : ∃ X, X = wo.heap.size := ⟨_, rfl⟩
                  rw [← hXe] at FR O4 ⊢
                  clear hXe hlow l0
                  have hlen : ∀ k i, (c.mq k i).length = 4 := fun a b => by rw [HM.out]; rfl
                  go_wp2
                  go_loopw [13] (fun i wx => ∃ i' : Nat, i' ≤ 64 ∧ i = .int .i64 i' ∧ Mar c wx ∧ Gs c G us n 64 (fun j => marks c.mq j (c.ns j) ++ marks c.mq (j + k) 64) wx ∧ ∃ rest, wx.ownsRow B0 47 4 (.slice (some ⟨X, 0, none⟩) 64 64) 64 (marks c.mq (n + k) i' ++ rest)) (fun i _ => 64 - (intOf i).toNat)
                  case atStart => exact ⟨0, by omega, rfl, M4.out, G4.out, _, O4.out⟩
                  case round =>
                    obtain ⟨i, hi, rfl, hM, hG, rest, hO⟩ := hrel
                    have M5 := Kept.mk hM
                    have G5 := Kept.mk hG
                    have O5 := Kept.mk hO
                    have l1 : wr.cell? ⟨B, n, none⟩ = some (.slice A (c.ns n) cc) := LS.out _ _ _ hM.1 HV.out
                    clear hM hG hO
                    by_cases hlt2 : i < 64
                    · as_aux_lemma =>
                      have i2 : (0 : Int) ≤ (i : Int) := by omega
                      have i3 : (i : Int) < 64 := by omega
                      go_wp2_with (fail)
                      refine (markNodes_any ((n : Int) + k) (i) _ (by omega) (by omega) (by omega) (by omega)).mono ?_; rintro e w1 ⟨rfl, hb1⟩
                      have M6 := Kept.mk (M5.out.below HC.out hb1)
                      have G6 := Kept.mk (G5.out.below hb1)
                      have O6 := Kept.mk (own_below O5.out hb1)
                      have hcl := fun j (hj : j < 4) => own_at O6.out (i * 4 + j) _ (List.getElem?_eq_getElem (by have h1 := O6.out.1; omega))
                      obtain ⟨y0, z0⟩ : ∃ y, w1.cell? ⟨X, i * 4 + 0, none⟩ = some y := ⟨_, hcl 0 (by omega)⟩
                      have f0 : w1.frozen? ⟨X, i * 4, none⟩ = false := own_unfrozen O6.out _
                      obtain ⟨y1, z1⟩ : ∃ y, w1.cell? ⟨X, i * 4 + 1, none⟩ = some y := ⟨_, hcl 1 (by omega)⟩
                      have f1 : w1.frozen? ⟨X, i * 4 + 1, none⟩ = false := own_unfrozen O6.out _
                      obtain ⟨y2, z2⟩ : ∃ y, w1.cell? ⟨X, i * 4 + 2, none⟩ = some y := ⟨_, hcl 2 (by omega)⟩
                      have f2 : w1.frozen? ⟨X, i * 4 + 2, none⟩ = false := own_unfrozen O6.out _
                      obtain ⟨y3, z3⟩ : ∃ y, w1.cell? ⟨X, i * 4 + 3, none⟩ = some y := ⟨_, hcl 3 (by omega)⟩
                      have f3 : w1.frozen? ⟨X, i * 4 + 3, none⟩ = false := own_unfrozen O6.out _
                      clear hcl hb1
                      simp only [Nat.add_zero] at z0 z1 z2 z3
                      have hst := FR.out.store M6.out G6.out (i * 4) (c.mq (n + k) i)
                      have hms := many_store hlen hlt2 O6.out
                      have hq : c.mq (n + k) i = [.int .u8 0, .string ⟨#[]⟩, .string ⟨#[]⟩, .int .i64 (mkI ((n : Int) + k) i)] := by rw [HM.out]; rfl
                      rw [hq] at hst hms
                      have ST := Kept.mk hst
                      have MS := Kept.mk hms
                      clear hst hms hq
                      go_wp2_with (fail)
                      go_roundw
                      case rel => exact ⟨i + 1, by omega, by go_num, ST.out.1, ST.out.2, MS.out⟩
                      case measure => simp [intOf]; omega
                    · as_aux_lemma =>
                      obtain rfl : i = 64 := by omega
                      have hnews := many_done O5.out
                      have HNW := Kept.mk hnews
                      have N5 := Kept.mk (Now.first HC.out G5.out HV.out)
                      have U5 := Kept.mk (M5.out.2 n _ HV.out)
                      have U6 : Kept (wr.ownsRow B0 47 4 (.slice A (c.ns n) cc) (c.ns n) (marks c.mq n (c.ns n))) := ⟨by have h := U5.out; rw [HB0.out, HE.out, HZ.out] at h; exact h⟩
                      have hl5 : B0 ≤ wr.heap.size := by have h1 := M5.out.1.1.size; rw [HW.out] at h1; exact Nat.le_trans hB0 h1
                      have hone : Kept (∀ u ∈ marks c.mq (n + k) 64, u.oneCell' = true) := ⟨by rw [HM.out]; exact oneNodes 64 (n + k)⟩
                      have hml : Kept ((marks c.mq (n + k) 64).length = 64 * 4) := ⟨marks_length hlen _ _⟩
                      clear hnews hlen
                      go_wp2_with (at_builtin; refine wpList_append_share _ rfl (.tmp 148) (.tmp 149) 22 rfl B0 47 iE (.agg #[.int .u8 0, .string ⟨#[]⟩, .string ⟨#[]⟩, .int .i64 0]) 4 48 Tryz.underlying22 hiE hzE hsE hbE rfl (by decide) (.slice A (c.ns n) cc) (c.ns n) (marks c.mq n (c.ns n)) (by rfl) U6.out ⟨X, 0, none⟩ 64 64 (marks c.mq (n + k) 64) (by rfl) hml.out HNW.out hone.out (by unfold maxLen; omega) (by omega) hl5 ?_; intro v5 w5 hown5 hgrow5 hat5 hsh5; have hX := gather HC.out M5.out G5.out N5.out U5.out (Nat.le_refl _) hgrow5 hat5 (by rw [HE.out, HZ.out]; exact hsh5); have hY : w5.ownsRow c.B0 c.E c.sz v5 (c.ns n + 64) (marks c.mq n (c.ns n) ++ marks c.mq (n + k) 64) := (by rw [HB0.out, HE.out, HZ.out]; exact hown5); obtain ⟨A7, c7, rfl, _⟩ := own_slice hY; obtain ⟨_, _, l2⟩ := hX.2.1.get (j := n) (by rw [HK.out]; exact hlt); have f2 : w5.frozen? ⟨G, n, none⟩ = false := own_unfrozen hX.2.1.own n; have hst := gs_store HC.out hX.1.1 hX.1.2 hX.2.1.lt.1 hX.2.1 hY hX.2.2; have ST := Kept.mk hst; clear hst hX hY hown5 hgrow5 hat5 hsh5)
                      go_roundw
                      case rel => exact ⟨n + 1, _, by omega, by go_num, ⟨ST.out.1, ST.out.2.1⟩, ST.out.2.2⟩
                      case measure => simp [intOf]; omega
                · obtain rfl : k = n := by omega
                  -- MARK5
                  go_wp2
                  go_loopw [14] (fun n wx => ∃ n' : Nat, n' ≤ k ∧ n = .int .i64 n' ∧ Mar c wx ∧ Gs c G us k 64 (fun j => marks c.mq j (c.ns j) ++ marks c.mq (j + k) 64) wx) (fun n _ => k - (intOf n).toNat)
                  case atStart => exact ⟨0, by omega, rfl, M3.out, G3.out⟩
                  case round =>
                    obtain ⟨p, hp, rfl, hM, hG⟩ := hrel
                    have M3 := Kept.mk hM
                    have G3 := Kept.mk hG
                    clear hM hG
                    by_cases hlt : p < k
                    · obtain ⟨v, hv⟩ := M3.out.1.get (j := p) (by rw [HK.out]; exact hlt)
                      obtain ⟨A, cc, rfl, _⟩ := own_slice (M3.out.2 p v hv)
                      obtain ⟨u, hu, l2⟩ := G3.out.get (j := p) (by rw [HK.out]; exact hlt)
                      obtain ⟨A2, c2, rfl, _⟩ := own_slice (G3.out.row p u hlt hu)
                      have HV := Kept.mk hv
                      have HU := Kept.mk hu
                      have hnn := HN.out p
                      have l0 : wr.cell? ⟨B, p, none⟩ = some (.slice A (c.ns p) cc) := LS.out _ _ _ M3.out.1 hv
                      have i0 : (0 : Int) ≤ (p : Int) := by omega
                      have i1 : (p : Int) < (k : Int) := by omega
                      clear hv hu
                      obtain ⟨wo, rfl⟩ : ∃ wo : World, wo = wr := ⟨_, rfl⟩
                      go_wp2
                      go_loopw [15] (fun i wx => ∃ i' : Nat, i' ≤ c.ns p ∧ i = .int .i64 i' ∧ Mar c wx ∧ Gs c G us k 64 (fun j => marks c.mq j (c.ns j) ++ marks c.mq (j + k) 64) wx) (fun i _ => c.ns p - (intOf i).toNat)
                      case atStart => exact ⟨0, by omega, rfl, M3.out, G3.out⟩
                      case round =>
                        obtain ⟨i, hi, rfl, hM, hG⟩ := hrel
                        have M4 := Kept.mk hM
                        have G4 := Kept.mk hG
                        have l1 : wr.cell? ⟨B, p, none⟩ = some (.slice A (c.ns p) cc) := LS.out _ _ _ hM.1 HV.out
                        have l3 : wr.cell? ⟨G, p, none⟩ = some (.slice A2 (c.ns p + 64) c2) := own_at hG.own p _ HU.out
                        clear hM hG l0 l2
                        by_cases hlt2 : i < c.ns p
                        · have hlen : ∀ k i, (c.mq k i).length = 4 := fun a b => by rw [HM.out]; rfl
                          have hrow := G4.out.row p _ hlt HU.out
                          rw [HZ.out] at hrow
                          obtain ⟨g2, c2', e, hq⟩ := row_cells (i := i) hlen hrow hlt2 (by omega)
                          cases e
                          rw [HM.out] at hq
                          have q0 : wr.cell? ⟨g2, i * 4, none⟩ = some (.int .u8 0) := hq 0 _ rfl
                          have q1 : wr.cell? ⟨g2, i * 4 + 1, none⟩ = some (.string ⟨#[]⟩) := hq 1 _ rfl
                          have q2 : wr.cell? ⟨g2, i * 4 + 2, none⟩ = some (.string ⟨#[]⟩) := hq 2 _ rfl
                          have q3 : wr.cell? ⟨g2, i * 4 + 3, none⟩ = some (.int .i64 (mkI p i)) := hq 3 _ rfl
                          clear hq hrow
                          have i2 : (0 : Int) ≤ (i : Int) := by omega
                          have i3 : (i : Int) < ((c.ns p + 64 : Nat) : Int) := by omega
                          have i5 : (i : Int) < ((c.ns p : Nat) : Int) + 64 := by omega
                          have hE := fun wx => eqlM_Nodes (mkI p i) wx
                          as_aux_lemma =>
                          have hin : i < c.ns p := hlt2
                          obtain ⟨g, cc', e, hr⟩ := row_cells (i := i) (ys := []) hlen (by rw [List.append_nil]; have := M4.out.2 p _ HV.out; rw [HZ.out] at this; exact this) hin (by omega)
                          cases e
                          rw [HM.out] at hr
                          have r0 : wr.cell? ⟨g, i * 4, none⟩ = some (.int .u8 0) := hr 0 _ rfl
                          have r1 : wr.cell? ⟨g, i * 4 + 1, none⟩ = some (.string ⟨#[]⟩) := hr 1 _ rfl
                          have r2 : wr.cell? ⟨g, i * 4 + 2, none⟩ = some (.string ⟨#[]⟩) := hr 2 _ rfl
                          have r3 : wr.cell? ⟨g, i * 4 + 3, none⟩ = some (.int .i64 (mkI p i)) := hr 3 _ rfl
                          clear hr
                          have i4 : (i : Int) < ((c.ns p : Nat) : Int) := by omega
                          go_wp2_with (fail)
                          refine wp_region_noPanic ?_
                          refine wp_region_held_drew (S := fun wx => wx.cell? ⟨B, p, none⟩ = some (.slice (some ⟨g, 0, none⟩) (c.ns p) cc) ∧ wx.cell? ⟨G, p, none⟩ = some (.slice (some ⟨g2, 0, none⟩) (c.ns p + 64) c2) ∧ wx.cell? ⟨g2, i * 4, none⟩ = some (.int .u8 0) ∧ wx.cell? ⟨g2, i * 4 + 1, none⟩ = some (.string ⟨#[]⟩) ∧ wx.cell? ⟨g2, i * 4 + 2, none⟩ = some (.string ⟨#[]⟩) ∧ wx.cell? ⟨g2, i * 4 + 3, none⟩ = some (.int .i64 (mkI p i)) ∧ wx.cell? ⟨g, i * 4, none⟩ = some (.int .u8 0) ∧ wx.cell? ⟨g, i * 4 + 1, none⟩ = some (.string ⟨#[]⟩) ∧ wx.cell? ⟨g, i * 4 + 2, none⟩ = some (.string ⟨#[]⟩) ∧ wx.cell? ⟨g, i * 4 + 3, none⟩ = some (.int .i64 (mkI p i))) (by as_aux_lemma => kernel_rfl) ⟨l1, l3, q0, q1, q2, q3, r0, r1, r2, r3⟩ (fun hHeld => ?_)
                          refine wpAnyH_take (i := 0) (oi := ⟨_, _, _, _, _, _⟩) (v := ?_) rfl (by as_aux_lemma => kernel_rfl) (by as_aux_lemma => kernel_rfl) (by as_aux_lemma => kernel_rfl) (fun _ _ _ h => h) (Or.inl ⟨by rfl, ?_⟩) (by assumption) ?_
                          rotate_left
                          · (intro w hSw; (try dsimp only at hSw); go_simp; try (with_reducible rfl))
                          try simp only [Act.put, List.setIfInBounds_toArray, List.set_cons_zero, List.set_cons_succ]
                          refine wpAnyH_take (i := 1) (oi := ⟨_, _, _, _, _, _⟩) (v := ?_) rfl (by as_aux_lemma => kernel_rfl) (by as_aux_lemma => kernel_rfl) (by as_aux_lemma => kernel_rfl) (fun _ _ _ h => h) (Or.inl ⟨by rfl, ?_⟩) (by assumption) ?_
                          rotate_left
                          · (intro w hSw; (try dsimp only at hSw); go_simp; try (with_reducible rfl))
                          try simp only [Act.put, List.setIfInBounds_toArray, List.set_cons_zero, List.set_cons_succ]
                          refine wpAnyH_take (i := 2) (oi := ⟨_, _, _, _, _, _⟩) (v := ?_) rfl (by as_aux_lemma => kernel_rfl) (by as_aux_lemma => kernel_rfl) (by as_aux_lemma => kernel_rfl) (fun _ _ _ h => h) (Or.inl ⟨by rfl, ?_⟩) (by assumption) ?_
                          rotate_left
                          · (intro w hSw; (try dsimp only at hSw); go_simp; try (with_reducible rfl))
                          try simp only [Act.put, List.setIfInBounds_toArray, List.set_cons_zero, List.set_cons_succ]
                          refine wpAnyH_take (i := 3) (oi := ⟨_, _, _, _, _, _⟩) (v := ?_) rfl (by as_aux_lemma => kernel_rfl) (by as_aux_lemma => kernel_rfl) (by as_aux_lemma => kernel_rfl) (fun _ _ _ h => h) (Or.inl ⟨by rfl, ?_⟩) (by assumption) ?_
                          rotate_left
                          · (intro w hSw; (try dsimp only at hSw); go_simp; try (with_reducible rfl))
                          try simp only [Act.put, List.setIfInBounds_toArray, List.set_cons_zero, List.set_cons_succ]
                          refine wpAnyH_take (i := 4) (oi := ⟨_, _, _, _, _, _⟩) (v := ?_) rfl (by as_aux_lemma => kernel_rfl) (by as_aux_lemma => kernel_rfl) (by as_aux_lemma => kernel_rfl) (fun _ _ _ h => h) (Or.inl ⟨by rfl, ?_⟩) (by assumption) ?_
                          rotate_left
                          · (intro w hSw; (try dsimp only at hSw); go_simp; try (with_reducible rfl))
                          try simp only [Act.put, List.setIfInBounds_toArray, List.set_cons_zero, List.set_cons_succ]
                          refine wpAnyH_take (i := 5) (oi := ⟨_, _, _, _, _, _⟩) (v := ?_) rfl (by as_aux_lemma => kernel_rfl) (by as_aux_lemma => kernel_rfl) (by as_aux_lemma => kernel_rfl) (fun _ _ _ h => h) (Or.inl ⟨by rfl, ?_⟩) (by assumption) ?_
                          rotate_left
                          · (intro w hSw; (try dsimp only at hSw); go_simp; try (with_reducible rfl))
                          try simp only [Act.put, List.setIfInBounds_toArray, List.set_cons_zero, List.set_cons_succ]
                          refine wpAnyH_take (i := 6) (oi := ⟨_, _, _, _, _, _⟩) (v := ?_) rfl (by as_aux_lemma => kernel_rfl) (by as_aux_lemma => kernel_rfl) (by as_aux_lemma => kernel_rfl) (fun _ _ _ h => h) (Or.inl ⟨by rfl, ?_⟩) (by assumption) ?_
                          rotate_left
                          · (intro w hSw; (try dsimp only at hSw); go_simp; try (with_reducible rfl))
                          try simp only [Act.put, List.setIfInBounds_toArray, List.set_cons_zero, List.set_cons_succ]
                          refine wpAnyH_take (i := 7) (oi := ⟨_, _, _, _, _, _⟩) (v := ?_) rfl (by as_aux_lemma => kernel_rfl) (by as_aux_lemma => kernel_rfl) (by as_aux_lemma => kernel_rfl) (fun _ _ _ h => h) (Or.inl ⟨by rfl, ?_⟩) (by assumption) ?_
                          rotate_left
                          · (intro w hSw; (try dsimp only at hSw); go_simp; try (with_reducible rfl))
                          try simp only [Act.put, List.setIfInBounds_toArray, List.set_cons_zero, List.set_cons_succ]
                          refine wpAnyH_take (i := 8) (oi := ⟨_, _, _, _, _, _⟩) (v := ?_) rfl (by as_aux_lemma => kernel_rfl) (by as_aux_lemma => kernel_rfl) (by as_aux_lemma => kernel_rfl) (fun _ _ _ h => h) (Or.inl ⟨by rfl, ?_⟩) (by assumption) ?_
                          rotate_left
                          · (intro w hSw; (try dsimp only at hSw); go_simp; try (with_reducible rfl))
                          try simp only [Act.put, List.setIfInBounds_toArray, List.set_cons_zero, List.set_cons_succ]
                          refine wpAnyH_ready (rs := [9]) (by as_aux_lemma => kernel_rfl) (by simp) ?_
                          refine AllReadyH.cons (o := ⟨_, _, _, _, _, _⟩) rfl (fun K hK => ?_) AllReadyH.nil
                          go_simp
                          go_at_call 31; refine (markNodes_any (p) (i) _ (by omega) (by omega) (by omega) (by omega)).mono ?_; rintro e w1 ⟨rfl, hb1⟩
                          refine hK.out _ _ ?_ (fun hHeld1 => ?_)
                          · exact ⟨cel_keep (bel_drew hb1) l1, cel_keep (bel_drew hb1) l3, cel_keep (bel_drew hb1) q0, cel_keep (bel_drew hb1) q1, cel_keep (bel_drew hb1) q2, cel_keep (bel_drew hb1) q3, cel_keep (bel_drew hb1) r0, cel_keep (bel_drew hb1) r1, cel_keep (bel_drew hb1) r2, cel_keep (bel_drew hb1) r3⟩
                          clear hK K
                          try simp only [Act.put, List.setIfInBounds_toArray, List.set_cons_zero, List.set_cons_succ]
                          refine wpAnyH_take (i := 10) (oi := ⟨_, _, _, _, _, _⟩) (v := .bool true) rfl (by as_aux_lemma => kernel_rfl) (by as_aux_lemma => kernel_rfl) (by as_aux_lemma => kernel_rfl) (fun _ _ _ h => h) (Or.inl ⟨by rfl, fun w _ => exec_eql _ _ _ _ rfl _ _ _ w rfl rfl eqgM_Nodes (hE w)⟩) (by assumption) ?_
                          try simp only [Act.put, List.setIfInBounds_toArray, List.set_cons_zero, List.set_cons_succ]
                          refine wpAnyH_take (i := 11) (oi := ⟨_, _, _, _, _, _⟩) (v := ?_) rfl (by as_aux_lemma => kernel_rfl) (by as_aux_lemma => kernel_rfl) (by as_aux_lemma => kernel_rfl) (fun _ _ _ h => h) (Or.inl ⟨by rfl, ?_⟩) (by assumption) ?_
                          rotate_left
                          · (intro w hSw; (try dsimp only at hSw); go_simp; try (with_reducible rfl))
                          try simp only [Act.put, List.setIfInBounds_toArray, List.set_cons_zero, List.set_cons_succ]
                          refine wpAnyH_take (i := 12) (oi := ⟨_, _, _, _, _, _⟩) (v := ?_) rfl (by as_aux_lemma => kernel_rfl) (by as_aux_lemma => kernel_rfl) (by as_aux_lemma => kernel_rfl) (fun _ _ _ h => h) (Or.inl ⟨by rfl, ?_⟩) (by assumption) ?_
                          rotate_left
                          · (intro w hSw; (try dsimp only at hSw); go_simp; try (with_reducible rfl))
                          try simp only [Act.put, List.setIfInBounds_toArray, List.set_cons_zero, List.set_cons_succ]
                          refine wpAnyH_take (i := 13) (oi := ⟨_, _, _, _, _, _⟩) (v := ?_) rfl (by as_aux_lemma => kernel_rfl) (by as_aux_lemma => kernel_rfl) (by as_aux_lemma => kernel_rfl) (fun _ _ _ h => h) (Or.inl ⟨by rfl, ?_⟩) (by assumption) ?_
                          rotate_left
                          · (intro w hSw; (try dsimp only at hSw); go_simp; try (with_reducible rfl))
                          try simp only [Act.put, List.setIfInBounds_toArray, List.set_cons_zero, List.set_cons_succ]
                          refine wpAnyH_take (i := 14) (oi := ⟨_, _, _, _, _, _⟩) (v := ?_) rfl (by as_aux_lemma => kernel_rfl) (by as_aux_lemma => kernel_rfl) (by as_aux_lemma => kernel_rfl) (fun _ _ _ h => h) (Or.inl ⟨by rfl, ?_⟩) (by assumption) ?_
                          rotate_left
                          · (intro w hSw; (try dsimp only at hSw); go_simp; try (with_reducible rfl))
                          try simp only [Act.put, List.setIfInBounds_toArray, List.set_cons_zero, List.set_cons_succ]
                          refine wpAnyH_take (i := 15) (oi := ⟨_, _, _, _, _, _⟩) (v := ?_) rfl (by as_aux_lemma => kernel_rfl) (by as_aux_lemma => kernel_rfl) (by as_aux_lemma => kernel_rfl) (fun _ _ _ h => h) (Or.inl ⟨by rfl, ?_⟩) (by assumption) ?_
                          rotate_left
                          · (intro w hSw; (try dsimp only at hSw); go_simp; try (with_reducible rfl))
                          try simp only [Act.put, List.setIfInBounds_toArray, List.set_cons_zero, List.set_cons_succ]
                          refine wpAnyH_take (i := 16) (oi := ⟨_, _, _, _, _, _⟩) (v := ?_) rfl (by as_aux_lemma => kernel_rfl) (by as_aux_lemma => kernel_rfl) (by as_aux_lemma => kernel_rfl) (fun _ _ _ h => h) (Or.inl ⟨by rfl, ?_⟩) (by assumption) ?_
                          rotate_left
                          · (intro w hSw; (try dsimp only at hSw); go_simp; try (with_reducible rfl))
                          try simp only [Act.put, List.setIfInBounds_toArray, List.set_cons_zero, List.set_cons_succ]
                          refine wpAnyH_take (i := 17) (oi := ⟨_, _, _, _, _, _⟩) (v := ?_) rfl (by as_aux_lemma => kernel_rfl) (by as_aux_lemma => kernel_rfl) (by as_aux_lemma => kernel_rfl) (fun _ _ _ h => h) (Or.inl ⟨by rfl, ?_⟩) (by assumption) ?_
                          rotate_left
                          · (intro w hSw; (try dsimp only at hSw); go_simp; try (with_reducible rfl))
                          try simp only [Act.put, List.setIfInBounds_toArray, List.set_cons_zero, List.set_cons_succ]
                          refine wpAnyH_take (i := 18) (oi := ⟨_, _, _, _, _, _⟩) (v := ?_) rfl (by as_aux_lemma => kernel_rfl) (by as_aux_lemma => kernel_rfl) (by as_aux_lemma => kernel_rfl) (fun _ _ _ h => h) (Or.inl ⟨by rfl, ?_⟩) (by assumption) ?_
                          rotate_left
                          · (intro w hSw; (try dsimp only at hSw); go_simp; try (with_reducible rfl))
                          try simp only [Act.put, List.setIfInBounds_toArray, List.set_cons_zero, List.set_cons_succ]
                          refine wpAnyH_take (i := 19) (oi := ⟨_, _, _, _, _, _⟩) (v := ?_) rfl (by as_aux_lemma => kernel_rfl) (by as_aux_lemma => kernel_rfl) (by as_aux_lemma => kernel_rfl) (fun _ _ _ h => h) (Or.inl ⟨by rfl, ?_⟩) (by assumption) ?_
                          rotate_left
                          · (intro w hSw; (try dsimp only at hSw); go_simp; try (with_reducible rfl))
                          try simp only [Act.put, List.setIfInBounds_toArray, List.set_cons_zero, List.set_cons_succ]
                          refine wpAnyH_take (i := 20) (oi := ⟨_, _, _, _, _, _⟩) (v := ?_) rfl (by as_aux_lemma => kernel_rfl) (by as_aux_lemma => kernel_rfl) (by as_aux_lemma => kernel_rfl) (fun _ _ _ h => h) (Or.inl ⟨by rfl, ?_⟩) (by assumption) ?_
                          rotate_left
                          · (intro w hSw; (try dsimp only at hSw); go_simp; try (with_reducible rfl))
                          try simp only [Act.put, List.setIfInBounds_toArray, List.set_cons_zero, List.set_cons_succ]
                          refine wpAnyH_take (i := 21) (oi := ⟨_, _, _, _, _, _⟩) (v := ?_) rfl (by as_aux_lemma => kernel_rfl) (by as_aux_lemma => kernel_rfl) (by as_aux_lemma => kernel_rfl) (fun _ _ _ h => h) (Or.inl ⟨by rfl, ?_⟩) (by assumption) ?_
                          rotate_left
                          · (intro w hSw; (try dsimp only at hSw); go_simp; try (with_reducible rfl))
                          try simp only [Act.put, List.setIfInBounds_toArray, List.set_cons_zero, List.set_cons_succ]
                          refine wpAnyH_ready (rs := [22]) (by as_aux_lemma => kernel_rfl) (by simp) ?_
                          refine AllReadyH.cons (o := ⟨_, _, _, _, _, _⟩) rfl (fun K hK => ?_) AllReadyH.nil
                          go_simp
                          go_at_call 31; refine (markNodes_any (p) (i) _ (by omega) (by omega) (by omega) (by omega)).mono ?_; rintro e w2 ⟨rfl, hb2⟩
                          refine hK.out _ _ ?_ (fun hHeld2 => ?_)
                          · exact ⟨cel_keep hb2 hHeld1.1, cel_keep hb2 hHeld1.2.1, cel_keep hb2 hHeld1.2.2.1, cel_keep hb2 hHeld1.2.2.2.1, cel_keep hb2 hHeld1.2.2.2.2.1, cel_keep hb2 hHeld1.2.2.2.2.2.1, cel_keep hb2 hHeld1.2.2.2.2.2.2.1, cel_keep hb2 hHeld1.2.2.2.2.2.2.2.1, cel_keep hb2 hHeld1.2.2.2.2.2.2.2.2.1, cel_keep hb2 hHeld1.2.2.2.2.2.2.2.2.2⟩
                          clear hK K
                          try simp only [Act.put, List.setIfInBounds_toArray, List.set_cons_zero, List.set_cons_succ]
                          refine wpAnyH_take (i := 23) (oi := ⟨_, _, _, _, _, _⟩) (v := .bool true) rfl (by as_aux_lemma => kernel_rfl) (by as_aux_lemma => kernel_rfl) (by as_aux_lemma => kernel_rfl) (fun _ _ _ h => h) (Or.inl ⟨by rfl, fun w _ => exec_eql _ _ _ _ rfl _ _ _ w rfl rfl eqgM_Nodes (hE w)⟩) (by assumption) ?_
                          try simp only [Act.put, List.setIfInBounds_toArray, List.set_cons_zero, List.set_cons_succ]
                          refine wpAnyH_take (i := 24) (oi := ⟨_, _, _, _, _, _⟩) (v := ?_) rfl (by as_aux_lemma => kernel_rfl) (by as_aux_lemma => kernel_rfl) (by as_aux_lemma => kernel_rfl) (fun _ _ _ h => h) (Or.inl ⟨by rfl, ?_⟩) (by assumption) ?_
                          rotate_left
                          · (intro w hSw; (try dsimp only at hSw); go_simp; try (with_reducible rfl))
                          try simp only [Act.put, List.setIfInBounds_toArray, List.set_cons_zero, List.set_cons_succ]
                          refine wpAnyH_take (i := 25) (oi := ⟨_, _, _, _, _, _⟩) (v := ?_) rfl (by as_aux_lemma => kernel_rfl) (by as_aux_lemma => kernel_rfl) (by as_aux_lemma => kernel_rfl) (fun _ _ _ h => h) (Or.inl ⟨by rfl, ?_⟩) (by assumption) ?_
                          rotate_left
                          · (intro w hSw; (try dsimp only at hSw); go_simp; try (with_reducible rfl))
                          try simp only [Act.put, List.setIfInBounds_toArray, List.set_cons_zero, List.set_cons_succ]
                          refine wpAnyH_done (by as_aux_lemma => kernel_rfl) ?_ _
                          refine NoPanic.normal ?_
                          have hS : Below wr.heap.size wr w2 := bel_step (bel_drew hb1) hb2
                          have M5 := Kept.mk (M4.out.below HC.out hS)
                          have G5 := Kept.mk (G4.out.below hS)
                          clear hS hb1
                          go_wp2
                          go_roundw
                          case rel => exact ⟨i + 1, by omega, by go_num, M5.out, G5.out⟩
                          case measure => simp [intOf]; omega
                        · obtain rfl : i = c.ns p := by omega
                          go_wp2
                          go_roundw
                          case rel => exact ⟨p + 1, by omega, by go_num, M4.out, G4.out⟩
                          case measure => simp [intOf]; omega
                    · obtain rfl : k = p := by omega
                      have hend := Kept.mk (HCX.out ▸ M3.out.1.1)
                      go_wp2
                      go_ret
                      exact ⟨rfl, hend.out⟩
end Go.Proofs.YtkcpfjhdbbapiaaGreatDoor.Flt
namespace Go.Proofs.YtkcpfjhdbbapiaaGreatDoor.Flt
open Go Go.RowKit Go.Proofs.YtkcpfjhdbbapiaaGreatDoor.Kb

/-- a bag that holds lists of nodes alone -/
def bagC (v : Value) : Array Value := #[.slice none 0 0, .slice none 0 0, .slice none 0 0, .slice none 0 0, .slice none 0 0, v, .slice none 0 0, .slice none 0 0, .slice none 0 0, .slice none 0 0, .slice none 0 0, .slice none 0 0, .slice none 0 0, .slice none 0 0, .slice none 0 0, .slice none 0 0, .slice none 0 0, .slice none 0 0]
def IsBag (w : World) (D : Nat) (v : Value) : Prop := w.heap[D]? = some (.cells (bagC v) 80 (0, 0))
theorem IsBag.cell {w : World} {D : Nat} {v : Value} (h : IsBag w D v) (j : Nat) (u : Value) (hu : (bagC v)[j]? = some u) : w.cell? ⟨D, j, none⟩ = some u := by
  rw [cell_of_row w D j _ _ _ h]
  exact hu
theorem IsBag.lt {w : World} {D : Nat} {v : Value} (h : IsBag w D v) : D < w.heap.size := (Array.getElem?_eq_some_iff.1 h).1
theorem IsBag.below {w w1 : World} {D : Nat} {v : Value} (h : IsBag w D v) (hb : Below w.heap.size w w1) : IsBag w1 D v := (hb.block D h.lt).trans h
theorem IsBag.fro {w : World} {D : Nat} {v : Value} (h : IsBag w D v) (j : Nat) : w.frozen? ⟨D, j, none⟩ = false := Joins.unfrozen_of_block h _
theorem own_low {w : World} {base base' n k : Nat} {e : TypeId} {v : Value} {xs : List Value} (h : w.ownsRow base e k v n xs) (hb : base' ≤ base) : w.ownsRow base' e k v n xs :=
  ⟨h.1, h.2.imp id fun ⟨g, cap, cur, hv, hg, rest⟩ => ⟨g, cap, cur, hv, Nat.le_trans hb hg, rest⟩⟩
set_option maxRecDepth 100000 in
theorem putNodes_any (B0 D : Nat) (A : Option Addr) (m c : Nat) (v : Value) (n : Nat) (xs : List Value) (w : World) (hD : IsBag w D v) (hown : w.ownsRow B0 22 1 v n xs) (hn : n ≤ 100) (hlow : B0 ≤ D) (hne : v.ownBlock ≠ some D) :
    Calls Tryz.prog 47 #[.pointer (some ⟨D, 0, none⟩), .slice A m c] w fun e w' => ∃ v', e = .returned (.tuple #[]) ∧ IsBag w' D v' ∧ w'.ownsRow B0 22 1 v' (n + 1) (xs ++ [.slice A m c]) ∧ v'.ownBlock ≠ some D ∧ Below B0 w w' := by
  obtain ⟨iS, hiS, hzS, hsS, hbS⟩ := info_parts infoSNodes
  have c12 : w.cell? ⟨D, 5, none⟩ = some v := hD.cell 5 v rfl
  have f12 := hD.fro 5
  have hlt := hD.lt
  have HD := Kept.mk hD
  have HO := Kept.mk hown
  have HNE := Kept.mk hne
  clear hD hown hne
  go_enter Tryz.func47, Tryz.ntmps47
  go_wp2_with (at_builtin; refine wpList_append_own_at _ rfl (.tmp 8) (.tmp 10) 33 rfl B0 22 iS (.slice none 0 0) 1 24 Tryz.underlying33 hiS hzS hsS hbS rfl (by decide) v n xs (by rfl) (HO.out.alloc _) ⟨w.heap.size, 0, none⟩ 1 1 [.slice A m c] (by rfl) (by rfl) (World.news_of_block (heap_alloc_new _ _)) (by intro u hu; simp at hu; subst hu; rfl) (by unfold maxLen; omega) (by omega) (by simp; omega) ?_; intro v5 w5 hown5 hgrow5 _ hat5; obtain ⟨A5, c5, rfl, _⟩ := own_slice hown5; have hb5 := hgrow5.block D (by simp; omega) (fun e => HNE.out e.symm); have hD5 : IsBag w5 D v := hb5.trans ((HD.out.below ((Below.refl _ _).alloc (Nat.le_refl _) _))); have hlt5 := hD5.lt; have d12 : w5.cell? ⟨D, 5, none⟩ = some v := hD5.cell 5 v rfl; have g12 := hD5.fro 5; have HD5 := Kept.mk hD5; have HO5 := Kept.mk hown5; have HG5 := Kept.mk hgrow5; have HA5 := Kept.mk hat5; clear hD5 hown5 hgrow5 hat5 hb5 c12 f12)
  go_end0
  have hne5 : (Value.slice A5 (n + 1) c5).ownBlock ≠ some D := fun e => by
    rcases HA5.out with h | h
    · exact HNE.out (h.symm.trans e)
    · rw [e] at h
      injection h with h
      simp at h
      omega
  refine ⟨_, rfl, ?_, own_other HO5.out hne5, hne5, ?_⟩
  · exact Joins.block_setCell HD5.out _
  · exact (Below.grown ((Below.refl _ _).alloc (Nat.le_trans hlow (Nat.le_of_lt hlt)) _) HG5.out (by simp; omega) (fun b hb => (HO.out.lt b hb).1)).setCell hlow _
set_option maxRecDepth 100000 in
set_option maxHeartbeats 2000000 in
theorem apartNodes_any (B0 D K B C : Nat) (vs : List Value) (ns : Nat → Nat) (xs0 : Nat → List Value) (w : World) (hK : K ≤ 100) (hn : ∀ k, ns k ≤ 100000) (hD : IsBag w D (.slice (some ⟨B, 0, none⟩) K C)) (hB0 : B0 ≤ w.heap.size)
    (hown : w.ownsRow B0 22 1 (.slice (some ⟨B, 0, none⟩) K C) K vs) (hrow : ∀ (j : Nat) (v : Value), vs[j]? = some v → w.ownsRow B0 47 4 v (ns j) (xs0 j) ∧ v.ownBlock ≠ some D)
    (hfar : ∀ (j k : Nat) (u v : Value), j ≠ k → vs[j]? = some u → vs[k]? = some v → Far u v) :
    Calls Tryz.prog 48 #[.pointer (some ⟨D, 0, none⟩)] w fun e w' => e = .returned (.bool true) ∧ Below B0 w w' := by
  have H0 : Kept (IsBag w D (.slice (some ⟨B, 0, none⟩) K C)) := ⟨hD⟩
  have HO := Kept.mk hown
  have HR := Kept.mk hrow
  have HF := Kept.mk hfar
  have L0 : Kept (Below w.heap.size w w) := ⟨Below.refl _ _⟩
  clear hD hown hrow hfar
  go_enter Tryz.func48, Tryz.ntmps48
  have q0 : w.cell? ⟨D, 0, none⟩ = some (.slice none 0 0) := H0.out.cell 0 _ rfl
  go_wp2_with (fail)
  refine (nilWords _).mono ?_; rintro e w1 ⟨rfl, hb⟩
  have H1 := Kept.mk (H0.out.below hb)
  have L1 := Kept.mk (bel_step L0.out hb)
  clear hb q0
  have q1 : w1.cell? ⟨D, 1, none⟩ = some (.slice none 0 0) := H1.out.cell 1 _ rfl
  go_wp2_with (fail)
  refine (nilInts _).mono ?_; rintro e w2 ⟨rfl, hb⟩
  have H2 := Kept.mk (H1.out.below hb)
  have L2 := Kept.mk (bel_step L1.out hb)
  clear hb q1
  have q2 : w2.cell? ⟨D, 2, none⟩ = some (.slice none 0 0) := H2.out.cell 2 _ rfl
  go_wp2_with (fail)
  refine (nilLongs _).mono ?_; rintro e w3 ⟨rfl, hb⟩
  have H3 := Kept.mk (H2.out.below hb)
  have L3 := Kept.mk (bel_step L2.out hb)
  clear hb q2
  have q3 : w3.cell? ⟨D, 3, none⟩ = some (.slice none 0 0) := H3.out.cell 3 _ rfl
  go_wp2_with (fail)
  refine (nilTexts _).mono ?_; rintro e w4 ⟨rfl, hb⟩
  have H4 := Kept.mk (H3.out.below hb)
  have L4 := Kept.mk (bel_step L3.out hb)
  clear hb q3
  have q4 : w4.cell? ⟨D, 4, none⟩ = some (.slice none 0 0) := H4.out.cell 4 _ rfl
  go_wp2_with (fail)
  refine (nilBytes _).mono ?_; rintro e w5 ⟨rfl, hb⟩
  have H5 := Kept.mk (H4.out.below hb)
  have L5 := Kept.mk (bel_step L4.out hb)
  clear hb q4
  have q5 : w5.cell? ⟨D, 5, none⟩ = some (.slice (some ⟨B, 0, none⟩) K C) := H5.out.cell 5 _ rfl
  go_wp2_with (fail)
  have hcx : (cxNodes B0 K (.slice (some ⟨B, 0, none⟩) K C) vs ns w5).Ok := ⟨lenNodes, (by show 0 < 4; decide), cxNodes_ne, Nat.le_trans hB0 L5.out.size, HF.out⟩
  have hbs : Bas (cxNodes B0 K (.slice (some ⟨B, 0, none⟩) K C) vs ns w5) w5 := ⟨Kpt.refl _, own_below HO.out L5.out⟩
  have hfm : Fam (cxNodes B0 K (.slice (some ⟨B, 0, none⟩) K C) vs ns w5) xs0 w5 := fun j v hv => own_below (HR.out j v hv).1 L5.out
  refine (flatNodes_any B0 K B C vs ns xs0 w5 hK hn hcx hbs hfm).mono ?_; rintro e w6 ⟨rfl, hk⟩
  have hDk : ¬ May (cxNodes B0 K (.slice (some ⟨B, 0, none⟩) K C) vs ns w5) D := fun hm => by
    rcases hm with hm | ⟨j, v, hv, hvb⟩
    · have := H5.out.lt
      exact absurd hm (by show ¬ w5.heap.size ≤ D; omega)
    · exact (HR.out j v hv).2 hvb
  have H6 : Kept (IsBag w6 D (.slice (some ⟨B, 0, none⟩) K C)) := ⟨(hk.kp D H5.out.lt hDk).trans H5.out⟩
  have hb := hk.toB
  have L6 : Kept (Below B0 w w6) := ⟨(L5.out.mono hB0).trans hb⟩
  clear hcx hbs hfm hk hDk
  clear hb q5
  have q6 : w6.cell? ⟨D, 6, none⟩ = some (.slice none 0 0) := H6.out.cell 6 _ rfl
  go_wp2_with (fail)
  refine (nilFates _).mono ?_; rintro e w7 ⟨rfl, hb⟩
  have H7 := Kept.mk (H6.out.below hb)
  have L7 : Kept (Below B0 w w7) := ⟨L6.out.trans (hb.mono (Nat.le_trans hB0 L6.out.size))⟩
  clear hb q6
  have q7 : w7.cell? ⟨D, 7, none⟩ = some (.slice none 0 0) := H7.out.cell 7 _ rfl
  go_wp2_with (fail)
  refine (nilSpans _).mono ?_; rintro e w8 ⟨rfl, hb⟩
  have H8 := Kept.mk (H7.out.below hb)
  have L8 : Kept (Below B0 w w8) := ⟨L7.out.trans (hb.mono (Nat.le_trans hB0 L7.out.size))⟩
  clear hb q7
  have q8 : w8.cell? ⟨D, 8, none⟩ = some (.slice none 0 0) := H8.out.cell 8 _ rfl
  go_wp2_with (fail)
  refine (nilDirties _).mono ?_; rintro e w9 ⟨rfl, hb⟩
  have H9 := Kept.mk (H8.out.below hb)
  have L9 : Kept (Below B0 w w9) := ⟨L8.out.trans (hb.mono (Nat.le_trans hB0 L8.out.size))⟩
  clear hb q8
  have q9 : w9.cell? ⟨D, 9, none⟩ = some (.slice none 0 0) := H9.out.cell 9 _ rfl
  go_wp2_with (fail)
  refine (nilRecords _).mono ?_; rintro e w10 ⟨rfl, hb⟩
  have H10 := Kept.mk (H9.out.below hb)
  have L10 : Kept (Below B0 w w10) := ⟨L9.out.trans (hb.mono (Nat.le_trans hB0 L9.out.size))⟩
  clear hb q9
  have q10 : w10.cell? ⟨D, 10, none⟩ = some (.slice none 0 0) := H10.out.cell 10 _ rfl
  go_wp2_with (fail)
  refine (nilCells _).mono ?_; rintro e w11 ⟨rfl, hb⟩
  have H11 := Kept.mk (H10.out.below hb)
  have L11 : Kept (Below B0 w w11) := ⟨L10.out.trans (hb.mono (Nat.le_trans hB0 L10.out.size))⟩
  clear hb q10
  have q11 : w11.cell? ⟨D, 11, none⟩ = some (.slice none 0 0) := H11.out.cell 11 _ rfl
  go_wp2_with (fail)
  refine (nilHelds _).mono ?_; rintro e w12 ⟨rfl, hb⟩
  have H12 := Kept.mk (H11.out.below hb)
  have L12 : Kept (Below B0 w w12) := ⟨L11.out.trans (hb.mono (Nat.le_trans hB0 L11.out.size))⟩
  clear hb q11
  have q12 : w12.cell? ⟨D, 12, none⟩ = some (.slice none 0 0) := H12.out.cell 12 _ rfl
  go_wp2_with (fail)
  refine (nilTokens _).mono ?_; rintro e w13 ⟨rfl, hb⟩
  have H13 := Kept.mk (H12.out.below hb)
  have L13 : Kept (Below B0 w w13) := ⟨L12.out.trans (hb.mono (Nat.le_trans hB0 L12.out.size))⟩
  clear hb q12
  have q13 : w13.cell? ⟨D, 13, none⟩ = some (.slice none 0 0) := H13.out.cell 13 _ rfl
  go_wp2_with (fail)
  refine (nilExprs _).mono ?_; rintro e w14 ⟨rfl, hb⟩
  have H14 := Kept.mk (H13.out.below hb)
  have L14 : Kept (Below B0 w w14) := ⟨L13.out.trans (hb.mono (Nat.le_trans hB0 L13.out.size))⟩
  clear hb q13
  have q14 : w14.cell? ⟨D, 14, none⟩ = some (.slice none 0 0) := H14.out.cell 14 _ rfl
  go_wp2_with (fail)
  refine (nilItems _).mono ?_; rintro e w15 ⟨rfl, hb⟩
  have H15 := Kept.mk (H14.out.below hb)
  have L15 : Kept (Below B0 w w15) := ⟨L14.out.trans (hb.mono (Nat.le_trans hB0 L14.out.size))⟩
  clear hb q14
  have q15 : w15.cell? ⟨D, 15, none⟩ = some (.slice none 0 0) := H15.out.cell 15 _ rfl
  go_wp2_with (fail)
  refine (nilShowns _).mono ?_; rintro e w16 ⟨rfl, hb⟩
  have H16 := Kept.mk (H15.out.below hb)
  have L16 : Kept (Below B0 w w16) := ⟨L15.out.trans (hb.mono (Nat.le_trans hB0 L15.out.size))⟩
  clear hb q15
  have q16 : w16.cell? ⟨D, 16, none⟩ = some (.slice none 0 0) := H16.out.cell 16 _ rfl
  go_wp2_with (fail)
  refine (nilParts _).mono ?_; rintro e w17 ⟨rfl, hb⟩
  have H17 := Kept.mk (H16.out.below hb)
  have L17 : Kept (Below B0 w w17) := ⟨L16.out.trans (hb.mono (Nat.le_trans hB0 L16.out.size))⟩
  clear hb q16
  have q17 : w17.cell? ⟨D, 17, none⟩ = some (.slice none 0 0) := H17.out.cell 17 _ rfl
  go_wp2_with (fail)
  refine (nilCommands _).mono ?_; rintro e w18 ⟨rfl, hb⟩
  have H18 := Kept.mk (H17.out.below hb)
  have L18 : Kept (Below B0 w w18) := ⟨L17.out.trans (hb.mono (Nat.le_trans hB0 L17.out.size))⟩
  clear hb q17
  go_wp2_with (fail)
  go_ret
  exact ⟨rfl, L18.out⟩
theorem below_box {B0 : Nat} {w w1 : World} {o : Obj} (hB0 : B0 ≤ w.heap.size) (h : Below B0 (w.alloc o) w1) : Below B0 w w1 := ((Below.refl _ _).alloc hB0 _).trans h
set_option maxRecDepth 100000 in
set_option maxHeartbeats 2000000 in
theorem apartNodesList_any (B0 K b C : Nat) (vs : List Value) (ns : Nat → Nat) (xs0 : Nat → List Value) (w : World) (hK : K ≤ 100) (hK0 : 0 < K) (hl : vs.length = K) (hn : ∀ k, ns k ≤ 100000) (hB0 : B0 ≤ w.heap.size)
    (hb : ∀ (j : Nat) (v : Value), vs[j]? = some v → w.cell? ⟨b, j, none⟩ = some v) (hrow : ∀ (j : Nat) (v : Value), vs[j]? = some v → w.ownsRow B0 47 4 v (ns j) (xs0 j))
    (hfar : ∀ (j k : Nat) (u v : Value), j ≠ k → vs[j]? = some u → vs[k]? = some v → Far u v) :
    Calls Tryz.prog 13 #[.slice (some ⟨b, 0, none⟩) K C] w fun e w' => e = .returned (.bool true) ∧ Below B0 w w' := by
  have HB := Kept.mk hb
  have HR := Kept.mk hrow
  have HF := Kept.mk hfar
  have HL := Kept.mk hl
  clear hb hrow hfar hl
  go_enter Tryz.func13, Tryz.ntmps13
  go_wp2
  go_loopw [4] (fun i wx => ∃ (k : Nat) (v : Value), k ≤ K ∧ i = .int .i64 k ∧ IsBag wx w.heap.size v ∧ wx.ownsRow w.heap.size 22 1 v k (vs.take k) ∧ v.ownBlock ≠ some w.heap.size ∧ Below w.heap.size w wx) (fun i _ => K - (intOf i).toNat)
  case atStart => exact ⟨0, .slice none 0 0, by omega, rfl, heap_alloc_new _ _, World.ownsRow_nil _ _ _ _, by simp [Value.ownBlock], (Below.refl _ _).alloc (Nat.le_refl _) _⟩
  case round =>
    obtain ⟨k, v, hk, rfl, hD, hO, hne, hw⟩ := hrel
    have HW := Kept.mk hw
    by_cases hlt : k < K
    · obtain ⟨u, hu⟩ : ∃ u, vs[k]? = some u := ⟨_, List.getElem?_eq_getElem (by rw [HL.out]; exact hlt)⟩
      obtain ⟨A, c, rfl, _⟩ := own_slice (HR.out k u hu)
      have q0 : wr.cell? ⟨b, k, none⟩ = some (.slice A (ns k) c) := cel_keep hw (HB.out k _ hu)
      have HP := Kept.mk (putNodes_any w.heap.size w.heap.size A (ns k) c v k (vs.take k) wr hD hO (by omega) (Nat.le_refl _) hne)
      have ht : Kept (vs.take k ++ [.slice A (ns k) c] = vs.take (k + 1)) := ⟨by rw [List.take_add_one, hu]; rfl⟩
      have i0 : (0 : Int) ≤ (k : Int) := by omega
      have i1 : (k : Int) < (K : Int) := by omega
      clear hD hO hne hw hu
      go_wp2_with (fail)
      refine HP.out.mono ?_; rintro e w1 ⟨v', rfl, h1, h2, h3, h4⟩
      have G1 := Kept.mk h1
      have G2 := Kept.mk h2
      have G3 := Kept.mk h3
      have G4 := Kept.mk h4
      clear h1 h2 h3 h4
      go_wp2_with (fail)
      go_roundw
      case rel => exact ⟨k + 1, v', by omega, by go_num, G1.out, by rw [← ht.out]; exact G2.out, G3.out, HW.out.trans G4.out⟩
      case measure => simp [intOf]; omega
    · obtain rfl : k = K := by omega
      rw [List.take_of_length_le (by rw [HL.out]; exact Nat.le_refl _)] at hO
      obtain ⟨B, C', rfl, _⟩ := own_block hO hK0
      have HP := Kept.mk (apartNodes_any B0 w.heap.size k B C' vs ns xs0 wr hK hn hD (Nat.le_trans hB0 hw.size) (own_low hO hB0) (fun j v hv => ⟨own_below (HR.out j v hv) hw, fun e => by have := own_lt (HR.out j v hv) _ e; omega⟩) HF.out)
      clear hD hO hne hw
      go_wp2_with (fail)
      refine HP.out.mono ?_; rintro e w1 ⟨rfl, h1⟩
      have G1 := Kept.mk h1
      clear h1
      go_wp2_with (fail)
      go_ret
      exact ⟨rfl, (HW.out.mono hB0).trans G1.out⟩
end Go.Proofs.YtkcpfjhdbbapiaaGreatDoor.Flt
namespace Go.Proofs.YtkcpfjhdbbapiaaGreatDoor.Flt
open Go Go.RowKit Go.Proofs.YtkcpfjhdbbapiaaGreatDoor.Kb

theorem markInts_any (k i : Int) (w : World) (hk0 : 0 ≤ k) (hk : k ≤ 1000) (hi0 : 0 ≤ i) (hi : i ≤ 1000000) :
    Calls Tryz.prog 56 #[.int .i64 k, .int .i64 i] w fun e w' => e = .returned (.int .i64 (mkI k i)) ∧ Below w.heap.size w w' :=
  (mark_any k i w hk0 hk hi0 hi).mono fun _ _ ⟨he, hw⟩ => ⟨he, hw ▸ Below.refl _ _⟩
def mkInts (k i : Nat) : List Value := [.int .i64 (mkI k i)]
theorem lenInts (k i : Nat) : (mkInts k i).length = 1 := rfl
theorem oneInts : ∀ (n k : Nat), ∀ u ∈ marks mkInts k n, u.oneCell' = true := by
  intro n k u hu
  obtain ⟨i, _, hi⟩ := List.mem_flatMap.1 hu
  simp only [mkInts, List.mem_cons, List.mem_nil_iff, or_false] at hi
  rcases hi with rfl <;> rfl
theorem infoInts : (Tryz.prog.info? 3).map (fun i => (i.zero, i.size, i.bytes)) = some (some (.int .i64 0), 1, 8) := by kernel_rfl
theorem infoSInts : (Tryz.prog.info? 27).map (fun i => (i.zero, i.size, i.bytes)) = some (some (.slice none 0 0), 1, 24) := by kernel_rfl
theorem cxInts_ne : 3 ≠ 27 := by decide
def cxInts (B0 K : Nat) (lsv : Value) (vs : List Value) (ns : Nat → Nat) (w : World) : Ctx := ⟨3, 27, 1, mkInts, B0, K, lsv, vs, ns, w⟩
set_option maxRecDepth 200000 in
set_option maxHeartbeats 8000000 in
theorem flatInts_any (B0 K B C : Nat) (vs : List Value) (ns : Nat → Nat) (xs0 : Nat → List Value) (w : World) (hK : K ≤ 100) (hn : ∀ k, ns k ≤ 100000)
    (hc : (cxInts B0 K (.slice (some ⟨B, 0, none⟩) K C) vs ns w).Ok) (hB : Bas (cxInts B0 K (.slice (some ⟨B, 0, none⟩) K C) vs ns w) w) (hF : Fam (cxInts B0 K (.slice (some ⟨B, 0, none⟩) K C) vs ns w) xs0 w) :
    Calls Tryz.prog 66 #[.slice (some ⟨B, 0, none⟩) K C] w fun e w' => e = .returned (.bool true) ∧ Kpt (cxInts B0 K (.slice (some ⟨B, 0, none⟩) K C) vs ns w) w' := by
  have HC := Kept.mk hc
  have HS := Kept.mk (F1.start hB hF)
  obtain ⟨c, hcx⟩ : ∃ c, c = cxInts B0 K (.slice (some ⟨B, 0, none⟩) K C) vs ns w := ⟨_, rfl⟩
  rw [← hcx] at HC HS
  have eK : c.K = K := by rw [hcx]; rfl
  have eL : c.lsv = .slice (some ⟨B, 0, none⟩) c.K C := by rw [hcx]; rfl
  have eN : ∀ k, c.ns k ≤ 100000 := by intro k; rw [hcx]; exact hn k
  have eZ : c.sz = 1 := by rw [hcx]; rfl
  have eM : c.mq = mkInts := by rw [hcx]; rfl
  have eW : c.w = w := by rw [hcx]; rfl
  have eB : c.B0 = B0 := by rw [hcx]; rfl
  have eE : c.E = 3 := by rw [hcx]; rfl
  have eS : c.S = 27 := by rw [hcx]; rfl
  have LS : Kept (∀ (wx : World) (j : Nat) (v : Value), Bas c wx → c.vs[j]? = some v → wx.cell? ⟨B, j, none⟩ = some v) := ⟨fun wx j v h hv => h.ls eL hv⟩
  have HL := Kept.mk eL
  have HN := Kept.mk eN
  have HCX := Kept.mk hcx
  have HZ := Kept.mk eZ
  have HM := Kept.mk eM
  have HK := Kept.mk eK
  have HE := Kept.mk eE
  have HSS := Kept.mk eS
  have HB0 := Kept.mk eB
  have HW := Kept.mk eW
  have hB0 : B0 ≤ w.heap.size := hc.low
  clear hc hB hF hcx eK eL eN eZ eM eB eE eS eW hn
  go_enter Tryz.func66, Tryz.ntmps66
  go_wp2
  go_loopw [3] (fun k wx => ∃ k' : Nat, k' ≤ K ∧ k = .int .i64 k' ∧ F1 c k' 0 wx) (fun k _ => K - (intOf k).toNat)
  case atStart => exact ⟨0, by omega, rfl, HS.out⟩
  case round =>
    obtain ⟨k, hk, rfl, hR⟩ := hrel
    have HR := Kept.mk hR
    clear hR
    by_cases hlt : k < K
    · obtain ⟨v, hv⟩ := HR.out.1.get (j := k) (by rw [HK.out]; exact hlt)
      obtain ⟨A, cc, rfl, _⟩ : ∃ A cc, v = .slice A (c.ns k) cc ∧ c.ns k ≤ cc := by
        obtain ⟨_, xs, h1, _⟩ := HR.out
        exact own_slice (h1 k v hv)
      have HV := Kept.mk hv
      have hnk := HN.out k
      have l0 : wr.cell? ⟨B, k, none⟩ = some (.slice A (c.ns k) cc) := LS.out _ _ _ HR.out.1 hv
      have i0 : (0 : Int) ≤ (k : Int) := by omega
      have i1 : (k : Int) < (K : Int) := by omega
      clear hv
      obtain ⟨wo, rfl⟩ : ∃ wo : World, wo = wr := ⟨_, rfl⟩
      go_wp2
      go_loopw [4] (fun i wx => ∃ i' : Nat, i' ≤ c.ns k ∧ i = .int .i64 i' ∧ F1 c k i' wx) (fun i _ => c.ns k - (intOf i).toNat)
      case atStart => exact ⟨0, by omega, rfl, HR.out⟩
      case round =>
        obtain ⟨i, hi, rfl, hR2⟩ := hrel
        have HR2 := Kept.mk hR2
        have l1 : wr.cell? ⟨B, k, none⟩ = some (.slice A (c.ns k) cc) := LS.out _ _ _ hR2.1 HV.out
        clear hR2
        by_cases hlt2 : i < c.ns k
        · as_aux_lemma =>
          obtain ⟨g, cc', e, hg0, hg1, hcl, hfz, hgl⟩ := HR2.out.row HC.out HV.out hlt2
          cases e
          have hgB : g ≠ B := fun e => hgl (by rw [HL.out, e]; rfl)
          clear hgl
          rw [HZ.out] at hcl
          have i2 : (0 : Int) ≤ (i : Int) := by omega
          have i3 : (i : Int) < ((c.ns k : Nat) : Int) := by omega
          obtain ⟨u0, z0⟩ := hcl 0 (by omega)
          simp only [Nat.add_zero, Nat.mul_one] at z0
          have f0 : wr.frozen? ⟨g, i, none⟩ = false := hfz _
          clear hcl hfz
          go_wp2_with (fail)
          go_region_held3 (fun wx => wx.cell? ⟨B, k, none⟩ = some (.slice (some ⟨g, 0, none⟩) (c.ns k) cc)) (first | exact l1 | exact cel_keep (bel_drew hb1) l1 | (rw [World.cell?_setCell_far _ _ _ _ hgB]; exact cel_keep (bel_drew hb1) l1)) (first | (go_at_call 56; refine (markInts_any (k) (i) _ (by omega) (by omega) (by omega) (by omega)).mono ?_; rintro e w1 ⟨rfl, hb1⟩; have z0 := cel_keep (bel_drew hb1) z0; have f0 := fro_keep (bel_drew hb1) hg1 f0))
          go_wp2
          have hst := F1.store HC.out (HR2.out.below HC.out (bel_drew hb1)) HV.out hlt2
          rw [HZ.out, HM.out] at hst
          simp only [Nat.mul_one, mkInts, World.setCells] at hst
          have HST := Kept.mk hst
          clear hst
          go_roundw
          case rel => exact ⟨i + 1, by omega, by go_num, HST.out⟩
          case measure => simp [intOf]; omega
        · obtain rfl : i = c.ns k := by omega
          have H1 := Kept.mk (HR2.out.next HC.out HV.out)
          go_wp2
          go_roundw
          case rel => exact ⟨k + 1, by omega, by go_num, H1.out⟩
          case measure => simp [intOf]; omega
    · obtain rfl : k = K := by omega
      have hM : Mar c wr := F1.done (by rw [HK.out]; exact HR.out)
      obtain ⟨iS, hiS, hzS, hsS, hbS⟩ := info_parts infoSInts
      have hlow : B0 ≤ wr.heap.size := by have h1 := hM.1.1.size; rw [HW.out] at h1; exact Nat.le_trans hB0 h1
      have M0 := Kept.mk hM
      clear hM HR HS
      go_wp2_with (at_make; refine wpList_make_full _ rfl _ _ 36 rfl B0 27 iS (.slice none 0 0) 1 Tryz.underlying36 hiS hzS hsS .i64 .i64 _ _ k (by rfl) (by rfl) rfl rfl (by rw [hbS]; omega) (by unfold maxLen; omega) hlow ?_; intro w2 hown2 hgrow2; have hGs := gs_new (m := 64) (ys := fun j => marks c.mq j (c.ns j + 64)) M0.out.1 (by rw [HB0.out, HSS.out, HK.out]; exact hown2); have M2 := Kept.mk (M0.out.below HC.out (below_of_grown hgrow2)); have G2 := Kept.mk hGs; clear hown2 hgrow2 hGs)
      obtain ⟨G, hGe⟩ : ∃ G, G = wr.heap.size := ⟨_, rfl⟩
      rw [← hGe] at G2 ⊢
      clear hGe hlow
      obtain ⟨iE, hiE, hzE, hsE, hbE⟩ := info_parts infoInts
      go_wp2
      go_loopw [6] (fun n wx => ∃ (n' : Nat) (us : List Value), n' ≤ k ∧ n = .int .i64 n' ∧ Mar c wx ∧ Gs c G us n' 64 (fun j => marks c.mq j (c.ns j + 64)) wx) (fun n _ => k - (intOf n).toNat)
      case atStart => exact ⟨0, _, by omega, rfl, M2.out, G2.out⟩
      case round =>
        obtain ⟨n, us, hnk, rfl, hM, hG⟩ := hrel
        have M3 := Kept.mk hM
        have G3 := Kept.mk hG
        clear hM hG
        by_cases hlt : n < k
        · obtain ⟨v, hv⟩ := M3.out.1.get (j := n) (by rw [HK.out]; exact hlt)
          obtain ⟨A, cc, rfl, _⟩ := own_slice (M3.out.2 n v hv)
          have HV := Kept.mk hv
          have hnn := HN.out n
          have l0 : wr.cell? ⟨B, n, none⟩ = some (.slice A (c.ns n) cc) := LS.out _ _ _ M3.out.1 hv
          have i0 : (0 : Int) ≤ (n : Int) := by omega
          have i1 : (n : Int) < (k : Int) := by omega
          clear hv
          obtain ⟨wo, rfl⟩ : ∃ wo : World, wo = wr := ⟨_, rfl⟩
          go_wp2
          go_loopw [7, 8] (fun u i wx => ∃ i' : Nat, i' ≤ 64 ∧ i = .int .i64 i' ∧ Mar c wx ∧ Gs c G us n 64 (fun j => marks c.mq j (c.ns j + 64)) wx ∧ Now c us n u ∧ wx.ownsRow c.B0 c.E c.sz u (c.ns n + i') (marks c.mq n (c.ns n + i'))) (fun _ i _ => 64 - (intOf i).toNat)
          case atStart => exact ⟨0, by omega, rfl, M3.out, G3.out, Now.first HC.out G3.out HV.out, M3.out.2 n _ HV.out⟩
          case round =>
            obtain ⟨i, hi, rfl, hM, hG, hNow, hU⟩ := hrel
            have M4 := Kept.mk hM
            have G4 := Kept.mk hG
            have N4 := Kept.mk hNow
            have U4 := Kept.mk hU
            have l1 : wr.cell? ⟨B, n, none⟩ = some (.slice A (c.ns n) cc) := LS.out _ _ _ hM.1 HV.out
            clear hM hG hNow hU
            by_cases hlt2 : i < 64
            · as_aux_lemma =>
              have i2 : (0 : Int) ≤ (i : Int) := by omega
              have i3 : (i : Int) < 64 := by omega
              have i4 : (i : Int) ≤ 64 := by omega
              go_wp2_with (fail)
              refine (markInts_any (n) ((c.ns n : Int) + i) _ (by omega) (by omega) (by omega) (by omega)).mono ?_; rintro e w1 ⟨rfl, hb1⟩
              have M5 := Kept.mk (M4.out.below HC.out hb1)
              have G5 := Kept.mk (G4.out.below hb1)
              have U5 := Kept.mk (own_below U4.out hb1)
              have hlow : B0 ≤ w1.heap.size + 1 := by have h1 := M5.out.1.1.size; rw [HW.out] at h1; omega
              clear hb1
              have A5 : Kept (Below w1.heap.size w1 (w1.alloc (.cells #[.int .i64 (mkI n ((c.ns n : Int) + i))] 3))) := ⟨(Below.refl _ _).alloc (Nat.le_refl _) _⟩
              have M6 := Kept.mk (M5.out.below HC.out A5.out)
              have G6 := Kept.mk (G5.out.below A5.out)
              have U6 := Kept.mk (own_below U5.out A5.out)
              have U7 : Kept ((w1.alloc (.cells #[.int .i64 (mkI n ((c.ns n : Int) + i))] 3)).ownsRow B0 3 1 u7 (c.ns n + i) (marks c.mq n (c.ns n + i))) := ⟨by have h := U6.out; rw [HB0.out, HE.out, HZ.out] at h; exact h⟩
              go_wp2_with (at_builtin; refine wpList_append_share _ rfl (.tmp 57) (.tmp 67) 27 rfl B0 3 iE (.int .i64 0) 1 8 Tryz.underlying27 hiE hzE hsE hbE rfl (by decide) u7 (c.ns n + i) (marks c.mq n (c.ns n + i)) (by rfl) U7.out ⟨w1.heap.size, 0, none⟩ 1 1 [.int .i64 (mkI n ((c.ns n : Int) + i))] (by rfl) (by rfl) (World.news_of_block (heap_alloc_new _ _)) (by intro u hu; simp at hu; subst hu; rfl) (by unfold maxLen; omega) (by omega) (by simp; omega) ?_; intro v5 w5 hown5 hgrow5 hat5 hsh5; have hX := gather HC.out M6.out G6.out N4.out U6.out (by omega) hgrow5 hat5 (by rw [HE.out, HZ.out]; exact hsh5); have hY : w5.ownsRow c.B0 c.E c.sz v5 (c.ns n + (i + 1)) (marks c.mq n (c.ns n + (i + 1))) := (by rw [HB0.out, HE.out, HZ.out, ← Nat.add_assoc, marks_succ]; have hq : c.mq n (c.ns n + i) = [.int .i64 (mkI n ((c.ns n : Int) + i))] := (by rw [HM.out]; rfl); rw [hq]; exact hown5); have HX := Kept.mk hX; have HY := Kept.mk hY; clear hX hY hown5 hgrow5 hat5 hsh5)
              go_roundw
              case rel => exact ⟨i + 1, by omega, by go_num, HX.out.1, HX.out.2.1, HX.out.2.2, HY.out⟩
              case measure => simp [intOf]; omega
            · obtain rfl : i = 64 := by omega
              obtain ⟨A7, c7, rfl, _⟩ := own_slice U4.out
              obtain ⟨_, hus, l2⟩ := G4.out.get (j := n) (by rw [HK.out]; exact hlt)
              have f2 : wr.frozen? ⟨G, n, none⟩ = false := own_unfrozen G4.out.own n
              have hst := gs_store HC.out M4.out.1 M4.out.2 G4.out.lt.1 G4.out U4.out N4.out
              have ST := Kept.mk hst
              clear hst hus
              go_wp2
              go_roundw
              case rel => exact ⟨n + 1, _, by omega, by go_num, ⟨ST.out.1, ST.out.2.1⟩, ST.out.2.2⟩
              case measure => simp [intOf]; omega
        · obtain rfl : k = n := by omega
          clear M0 M2 G2
          go_wp2
          go_loopw [9] (fun n wx => ∃ n' : Nat, n' ≤ k ∧ n = .int .i64 n' ∧ Mar c wx ∧ Gs c G us k 64 (fun j => marks c.mq j (c.ns j + 64)) wx) (fun n _ => k - (intOf n).toNat)
          case atStart => exact ⟨0, by omega, rfl, M3.out, G3.out⟩
          case round =>
            obtain ⟨p, hp, rfl, hM, hG⟩ := hrel
            have M3 := Kept.mk hM
            have G3 := Kept.mk hG
            clear hM hG
            by_cases hlt : p < k
            · obtain ⟨v, hv⟩ := M3.out.1.get (j := p) (by rw [HK.out]; exact hlt)
              obtain ⟨A, cc, rfl, _⟩ := own_slice (M3.out.2 p v hv)
              obtain ⟨u, hu, l2⟩ := G3.out.get (j := p) (by rw [HK.out]; exact hlt)
              obtain ⟨A2, c2, rfl, _⟩ := own_slice (G3.out.row p u hlt hu)
              have HV := Kept.mk hv
              have HU := Kept.mk hu
              have hnn := HN.out p
              have l0 : wr.cell? ⟨B, p, none⟩ = some (.slice A (c.ns p) cc) := LS.out _ _ _ M3.out.1 hv
              have i0 : (0 : Int) ≤ (p : Int) := by omega
              have i1 : (p : Int) < (k : Int) := by omega
              clear hv hu
              obtain ⟨wo, rfl⟩ : ∃ wo : World, wo = wr := ⟨_, rfl⟩
              go_wp2
              go_loopw [10] (fun i wx => ∃ i' : Nat, i' ≤ c.ns p + 64 ∧ i = .int .i64 i' ∧ Mar c wx ∧ Gs c G us k 64 (fun j => marks c.mq j (c.ns j + 64)) wx) (fun i _ => c.ns p + 64 - (intOf i).toNat)
              case atStart => exact ⟨0, by omega, rfl, M3.out, G3.out⟩
              case round =>
                obtain ⟨i, hi, rfl, hM, hG⟩ := hrel
                have M4 := Kept.mk hM
                have G4 := Kept.mk hG
                have l1 : wr.cell? ⟨B, p, none⟩ = some (.slice A (c.ns p) cc) := LS.out _ _ _ hM.1 HV.out
                have l3 : wr.cell? ⟨G, p, none⟩ = some (.slice A2 (c.ns p + 64) c2) := own_at hG.own p _ HU.out
                clear hM hG l0 l2
                by_cases hlt2 : i < c.ns p + 64
                · have hlen : ∀ k i, (c.mq k i).length = 1 := fun a b => by rw [HM.out]; rfl
                  have hrow := G4.out.row p _ hlt HU.out
                  rw [HZ.out] at hrow
                  obtain ⟨g2, c2', e, hq⟩ := row_cells (i := i) (ys := []) hlen (by rw [List.append_nil]; exact hrow) hlt2 (by omega)
                  cases e
                  rw [HM.out] at hq
                  have q0 : wr.cell? ⟨g2, i, none⟩ = some (.int .i64 (mkI p i)) := (by have h := hq 0 _ rfl; rwa [Nat.mul_one, Nat.add_zero] at h)
                  clear hq hrow
                  have i2 : (0 : Int) ≤ (i : Int) := by omega
                  have i3 : (i : Int) < ((c.ns p + 64 : Nat) : Int) := by omega
                  have i5 : (i : Int) < ((c.ns p : Nat) : Int) + 64 := by omega
                  by_cases hin : i < c.ns p
                  · as_aux_lemma =>
                    obtain ⟨g, cc', e, hr⟩ := row_cells (i := i) (ys := []) hlen (by rw [List.append_nil]; have := M4.out.2 p _ HV.out; rw [HZ.out] at this; exact this) hin (by omega)
                    cases e
                    rw [HM.out] at hr
                    have r0 : wr.cell? ⟨g, i, none⟩ = some (.int .i64 (mkI p i)) := (by have h := hr 0 _ rfl; rwa [Nat.mul_one, Nat.add_zero] at h)
                    clear hr
                    have i4 : (i : Int) < ((c.ns p : Nat) : Int) := by omega
                    go_wp2_with (fail)
                    refine wp_region_noPanic ?_
                    refine wp_region_held_drew (S := fun wx => wx.cell? ⟨B, p, none⟩ = some (.slice (some ⟨g, 0, none⟩) (c.ns p) cc) ∧ wx.cell? ⟨G, p, none⟩ = some (.slice (some ⟨g2, 0, none⟩) (c.ns p + 64) c2) ∧ wx.cell? ⟨g2, i, none⟩ = some (.int .i64 (mkI p i)) ∧ wx.cell? ⟨g, i, none⟩ = some (.int .i64 (mkI p i))) (by as_aux_lemma => kernel_rfl) ⟨l1, l3, q0, r0⟩ (fun hHeld => ?_)
                    refine wpAnyH_take (i := 0) (oi := ⟨_, _, _, _, _, _⟩) (v := ?_) rfl (by as_aux_lemma => kernel_rfl) (by as_aux_lemma => kernel_rfl) (by as_aux_lemma => kernel_rfl) (fun _ _ _ h => h) (Or.inl ⟨by rfl, ?_⟩) (by assumption) ?_
                    rotate_left
                    · (intro w hSw; (try dsimp only at hSw); go_simp; try (with_reducible rfl))
                    try simp only [Act.put, List.setIfInBounds_toArray, List.set_cons_zero, List.set_cons_succ]
                    refine wpAnyH_take (i := 1) (oi := ⟨_, _, _, _, _, _⟩) (v := ?_) rfl (by as_aux_lemma => kernel_rfl) (by as_aux_lemma => kernel_rfl) (by as_aux_lemma => kernel_rfl) (fun _ _ _ h => h) (Or.inl ⟨by rfl, ?_⟩) (by assumption) ?_
                    rotate_left
                    · (intro w hSw; (try dsimp only at hSw); go_simp; try (with_reducible rfl))
                    try simp only [Act.put, List.setIfInBounds_toArray, List.set_cons_zero, List.set_cons_succ]
                    refine wpAnyH_take (i := 2) (oi := ⟨_, _, _, _, _, _⟩) (v := ?_) rfl (by as_aux_lemma => kernel_rfl) (by as_aux_lemma => kernel_rfl) (by as_aux_lemma => kernel_rfl) (fun _ _ _ h => h) (Or.inl ⟨by rfl, ?_⟩) (by assumption) ?_
                    rotate_left
                    · (intro w hSw; (try dsimp only at hSw); go_simp; try (with_reducible rfl))
                    try simp only [Act.put, List.setIfInBounds_toArray, List.set_cons_zero, List.set_cons_succ]
                    refine wpAnyH_take (i := 3) (oi := ⟨_, _, _, _, _, _⟩) (v := ?_) rfl (by as_aux_lemma => kernel_rfl) (by as_aux_lemma => kernel_rfl) (by as_aux_lemma => kernel_rfl) (fun _ _ _ h => h) (Or.inl ⟨by rfl, ?_⟩) (by assumption) ?_
                    rotate_left
                    · (intro w hSw; (try dsimp only at hSw); go_simp; try (with_reducible rfl))
                    try simp only [Act.put, List.setIfInBounds_toArray, List.set_cons_zero, List.set_cons_succ]
                    refine wpAnyH_take (i := 4) (oi := ⟨_, _, _, _, _, _⟩) (v := ?_) rfl (by as_aux_lemma => kernel_rfl) (by as_aux_lemma => kernel_rfl) (by as_aux_lemma => kernel_rfl) (fun _ _ _ h => h) (Or.inl ⟨by rfl, ?_⟩) (by assumption) ?_
                    rotate_left
                    · (intro w hSw; (try dsimp only at hSw); go_simp; try (with_reducible rfl))
                    try simp only [Act.put, List.setIfInBounds_toArray, List.set_cons_zero, List.set_cons_succ]
                    refine wpAnyH_take (i := 5) (oi := ⟨_, _, _, _, _, _⟩) (v := ?_) rfl (by as_aux_lemma => kernel_rfl) (by as_aux_lemma => kernel_rfl) (by as_aux_lemma => kernel_rfl) (fun _ _ _ h => h) (Or.inl ⟨by rfl, ?_⟩) (by assumption) ?_
                    rotate_left
                    · (intro w hSw; (try dsimp only at hSw); go_simp; try (with_reducible rfl))
                    try simp only [Act.put, List.setIfInBounds_toArray, List.set_cons_zero, List.set_cons_succ]
                    refine wpAnyH_take (i := 6) (oi := ⟨_, _, _, _, _, _⟩) (v := ?_) rfl (by as_aux_lemma => kernel_rfl) (by as_aux_lemma => kernel_rfl) (by as_aux_lemma => kernel_rfl) (fun _ _ _ h => h) (Or.inl ⟨by rfl, ?_⟩) (by assumption) ?_
                    rotate_left
                    · (intro w hSw; (try dsimp only at hSw); go_simp; try (with_reducible rfl))
                    try simp only [Act.put, List.setIfInBounds_toArray, List.set_cons_zero, List.set_cons_succ]
                    refine wpAnyH_take (i := 7) (oi := ⟨_, _, _, _, _, _⟩) (v := ?_) rfl (by as_aux_lemma => kernel_rfl) (by as_aux_lemma => kernel_rfl) (by as_aux_lemma => kernel_rfl) (fun _ _ _ h => h) (Or.inl ⟨by rfl, ?_⟩) (by assumption) ?_
                    rotate_left
                    · (intro w hSw; (try dsimp only at hSw); go_simp; try (with_reducible rfl))
                    try simp only [Act.put, List.setIfInBounds_toArray, List.set_cons_zero, List.set_cons_succ]
                    refine wpAnyH_take (i := 8) (oi := ⟨_, _, _, _, _, _⟩) (v := ?_) rfl (by as_aux_lemma => kernel_rfl) (by as_aux_lemma => kernel_rfl) (by as_aux_lemma => kernel_rfl) (fun _ _ _ h => h) (Or.inl ⟨by rfl, ?_⟩) (by assumption) ?_
                    rotate_left
                    · (intro w hSw; (try dsimp only at hSw); go_simp; try (with_reducible rfl))
                    try simp only [Act.put, List.setIfInBounds_toArray, List.set_cons_zero, List.set_cons_succ]
                    refine wpAnyH_ready (rs := [9]) (by as_aux_lemma => kernel_rfl) (by simp) ?_
                    refine AllReadyH.cons (o := ⟨_, _, _, _, _, _⟩) rfl (fun K hK => ?_) AllReadyH.nil
                    go_simp
                    go_at_call 56; refine (markInts_any (p) (i) _ (by omega) (by omega) (by omega) (by omega)).mono ?_; rintro e w1 ⟨rfl, hb1⟩
                    refine hK.out _ _ ?_ (fun hHeld1 => ?_)
                    · exact ⟨cel_keep (bel_drew hb1) l1, cel_keep (bel_drew hb1) l3, cel_keep (bel_drew hb1) q0, cel_keep (bel_drew hb1) r0⟩
                    clear hK K
                    try simp only [Act.put, List.setIfInBounds_toArray, List.set_cons_zero, List.set_cons_succ]
                    refine wpAnyH_take (i := 10) (oi := ⟨_, _, _, _, _, _⟩) (v := ?_) rfl (by as_aux_lemma => kernel_rfl) (by as_aux_lemma => kernel_rfl) (by as_aux_lemma => kernel_rfl) (fun _ _ _ h => h) (Or.inl ⟨by rfl, ?_⟩) (by assumption) ?_
                    rotate_left
                    · (intro w hSw; (try dsimp only at hSw); go_simp; try (with_reducible rfl))
                    try simp only [Act.put, List.setIfInBounds_toArray, List.set_cons_zero, List.set_cons_succ]
                    refine wpAnyH_take (i := 11) (oi := ⟨_, _, _, _, _, _⟩) (v := ?_) rfl (by as_aux_lemma => kernel_rfl) (by as_aux_lemma => kernel_rfl) (by as_aux_lemma => kernel_rfl) (fun _ _ _ h => h) (Or.inl ⟨by rfl, ?_⟩) (by assumption) ?_
                    rotate_left
                    · (intro w hSw; (try dsimp only at hSw); go_simp; try (with_reducible rfl))
                    try simp only [Act.put, List.setIfInBounds_toArray, List.set_cons_zero, List.set_cons_succ]
                    refine wpAnyH_take (i := 12) (oi := ⟨_, _, _, _, _, _⟩) (v := ?_) rfl (by as_aux_lemma => kernel_rfl) (by as_aux_lemma => kernel_rfl) (by as_aux_lemma => kernel_rfl) (fun _ _ _ h => h) (Or.inl ⟨by rfl, ?_⟩) (by assumption) ?_
                    rotate_left
                    · (intro w hSw; (try dsimp only at hSw); go_simp; try (with_reducible rfl))
                    try simp only [Act.put, List.setIfInBounds_toArray, List.set_cons_zero, List.set_cons_succ]
                    refine wpAnyH_take (i := 13) (oi := ⟨_, _, _, _, _, _⟩) (v := ?_) rfl (by as_aux_lemma => kernel_rfl) (by as_aux_lemma => kernel_rfl) (by as_aux_lemma => kernel_rfl) (fun _ _ _ h => h) (Or.inl ⟨by rfl, ?_⟩) (by assumption) ?_
                    rotate_left
                    · (intro w hSw; (try dsimp only at hSw); go_simp; try (with_reducible rfl))
                    try simp only [Act.put, List.setIfInBounds_toArray, List.set_cons_zero, List.set_cons_succ]
                    refine wpAnyH_take (i := 14) (oi := ⟨_, _, _, _, _, _⟩) (v := ?_) rfl (by as_aux_lemma => kernel_rfl) (by as_aux_lemma => kernel_rfl) (by as_aux_lemma => kernel_rfl) (fun _ _ _ h => h) (Or.inl ⟨by rfl, ?_⟩) (by assumption) ?_
                    rotate_left
                    · (intro w hSw; (try dsimp only at hSw); go_simp; try (with_reducible rfl))
                    try simp only [Act.put, List.setIfInBounds_toArray, List.set_cons_zero, List.set_cons_succ]
                    refine wpAnyH_take (i := 15) (oi := ⟨_, _, _, _, _, _⟩) (v := ?_) rfl (by as_aux_lemma => kernel_rfl) (by as_aux_lemma => kernel_rfl) (by as_aux_lemma => kernel_rfl) (fun _ _ _ h => h) (Or.inl ⟨by rfl, ?_⟩) (by assumption) ?_
                    rotate_left
                    · (intro w hSw; (try dsimp only at hSw); go_simp; try (with_reducible rfl))
                    try simp only [Act.put, List.setIfInBounds_toArray, List.set_cons_zero, List.set_cons_succ]
                    refine wpAnyH_take (i := 16) (oi := ⟨_, _, _, _, _, _⟩) (v := ?_) rfl (by as_aux_lemma => kernel_rfl) (by as_aux_lemma => kernel_rfl) (by as_aux_lemma => kernel_rfl) (fun _ _ _ h => h) (Or.inl ⟨by rfl, ?_⟩) (by assumption) ?_
                    rotate_left
                    · (intro w hSw; (try dsimp only at hSw); go_simp; try (with_reducible rfl))
                    try simp only [Act.put, List.setIfInBounds_toArray, List.set_cons_zero, List.set_cons_succ]
                    refine wpAnyH_take (i := 17) (oi := ⟨_, _, _, _, _, _⟩) (v := ?_) rfl (by as_aux_lemma => kernel_rfl) (by as_aux_lemma => kernel_rfl) (by as_aux_lemma => kernel_rfl) (fun _ _ _ h => h) (Or.inl ⟨by rfl, ?_⟩) (by assumption) ?_
                    rotate_left
                    · (intro w hSw; (try dsimp only at hSw); go_simp; try (with_reducible rfl))
                    try simp only [Act.put, List.setIfInBounds_toArray, List.set_cons_zero, List.set_cons_succ]
                    refine wpAnyH_take (i := 18) (oi := ⟨_, _, _, _, _, _⟩) (v := ?_) rfl (by as_aux_lemma => kernel_rfl) (by as_aux_lemma => kernel_rfl) (by as_aux_lemma => kernel_rfl) (fun _ _ _ h => h) (Or.inl ⟨by rfl, ?_⟩) (by assumption) ?_
                    rotate_left
                    · (intro w hSw; (try dsimp only at hSw); go_simp; try (with_reducible rfl))
                    try simp only [Act.put, List.setIfInBounds_toArray, List.set_cons_zero, List.set_cons_succ]
                    refine wpAnyH_take (i := 19) (oi := ⟨_, _, _, _, _, _⟩) (v := ?_) rfl (by as_aux_lemma => kernel_rfl) (by as_aux_lemma => kernel_rfl) (by as_aux_lemma => kernel_rfl) (fun _ _ _ h => h) (Or.inl ⟨by rfl, ?_⟩) (by assumption) ?_
                    rotate_left
                    · (intro w hSw; (try dsimp only at hSw); go_simp; try (with_reducible rfl))
                    try simp only [Act.put, List.setIfInBounds_toArray, List.set_cons_zero, List.set_cons_succ]
                    refine wpAnyH_take (i := 20) (oi := ⟨_, _, _, _, _, _⟩) (v := ?_) rfl (by as_aux_lemma => kernel_rfl) (by as_aux_lemma => kernel_rfl) (by as_aux_lemma => kernel_rfl) (fun _ _ _ h => h) (Or.inl ⟨by rfl, ?_⟩) (by assumption) ?_
                    rotate_left
                    · (intro w hSw; (try dsimp only at hSw); go_simp; try (with_reducible rfl))
                    try simp only [Act.put, List.setIfInBounds_toArray, List.set_cons_zero, List.set_cons_succ]
                    refine wpAnyH_take (i := 21) (oi := ⟨_, _, _, _, _, _⟩) (v := ?_) rfl (by as_aux_lemma => kernel_rfl) (by as_aux_lemma => kernel_rfl) (by as_aux_lemma => kernel_rfl) (fun _ _ _ h => h) (Or.inl ⟨by rfl, ?_⟩) (by assumption) ?_
                    rotate_left
                    · (intro w hSw; (try dsimp only at hSw); go_simp; try (with_reducible rfl))
                    try simp only [Act.put, List.setIfInBounds_toArray, List.set_cons_zero, List.set_cons_succ]
                    refine wpAnyH_take (i := 22) (oi := ⟨_, _, _, _, _, _⟩) (v := ?_) rfl (by as_aux_lemma => kernel_rfl) (by as_aux_lemma => kernel_rfl) (by as_aux_lemma => kernel_rfl) (fun _ _ _ h => h) (Or.inl ⟨by rfl, ?_⟩) (by assumption) ?_
                    rotate_left
                    · (intro w hSw; (try dsimp only at hSw); go_simp; try (with_reducible rfl))
                    try simp only [Act.put, List.setIfInBounds_toArray, List.set_cons_zero, List.set_cons_succ]
                    refine wpAnyH_take (i := 23) (oi := ⟨_, _, _, _, _, _⟩) (v := ?_) rfl (by as_aux_lemma => kernel_rfl) (by as_aux_lemma => kernel_rfl) (by as_aux_lemma => kernel_rfl) (fun _ _ _ h => h) (Or.inl ⟨by rfl, ?_⟩) (by assumption) ?_
                    rotate_left
                    · (intro w hSw; (try dsimp only at hSw); go_simp; try (with_reducible rfl))
                    try simp only [Act.put, List.setIfInBounds_toArray, List.set_cons_zero, List.set_cons_succ]
                    refine wpAnyH_take (i := 24) (oi := ⟨_, _, _, _, _, _⟩) (v := ?_) rfl (by as_aux_lemma => kernel_rfl) (by as_aux_lemma => kernel_rfl) (by as_aux_lemma => kernel_rfl) (fun _ _ _ h => h) (Or.inl ⟨by rfl, ?_⟩) (by assumption) ?_
                    rotate_left
                    · (intro w hSw; (try dsimp only at hSw); go_simp; try (with_reducible rfl))
                    try simp only [Act.put, List.setIfInBounds_toArray, List.set_cons_zero, List.set_cons_succ]
                    refine wpAnyH_take (i := 25) (oi := ⟨_, _, _, _, _, _⟩) (v := ?_) rfl (by as_aux_lemma => kernel_rfl) (by as_aux_lemma => kernel_rfl) (by as_aux_lemma => kernel_rfl) (fun _ _ _ h => h) (Or.inl ⟨by rfl, ?_⟩) (by assumption) ?_
                    rotate_left
                    · (intro w hSw; (try dsimp only at hSw); go_simp; try (with_reducible rfl))
                    try simp only [Act.put, List.setIfInBounds_toArray, List.set_cons_zero, List.set_cons_succ]
                    refine wpAnyH_take (i := 26) (oi := ⟨_, _, _, _, _, _⟩) (v := ?_) rfl (by as_aux_lemma => kernel_rfl) (by as_aux_lemma => kernel_rfl) (by as_aux_lemma => kernel_rfl) (fun _ _ _ h => h) (Or.inl ⟨by rfl, ?_⟩) (by assumption) ?_
                    rotate_left
                    · (intro w hSw; (try dsimp only at hSw); go_simp; try (with_reducible rfl))
                    try simp only [Act.put, List.setIfInBounds_toArray, List.set_cons_zero, List.set_cons_succ]
                    refine wpAnyH_take (i := 27) (oi := ⟨_, _, _, _, _, _⟩) (v := ?_) rfl (by as_aux_lemma => kernel_rfl) (by as_aux_lemma => kernel_rfl) (by as_aux_lemma => kernel_rfl) (fun _ _ _ h => h) (Or.inl ⟨by rfl, ?_⟩) (by assumption) ?_
                    rotate_left
                    · (intro w hSw; (try dsimp only at hSw); go_simp; try (with_reducible rfl))
                    try simp only [Act.put, List.setIfInBounds_toArray, List.set_cons_zero, List.set_cons_succ]
                    refine wpAnyH_take (i := 28) (oi := ⟨_, _, _, _, _, _⟩) (v := ?_) rfl (by as_aux_lemma => kernel_rfl) (by as_aux_lemma => kernel_rfl) (by as_aux_lemma => kernel_rfl) (fun _ _ _ h => h) (Or.inl ⟨by rfl, ?_⟩) (by assumption) ?_
                    rotate_left
                    · (intro w hSw; (try dsimp only at hSw); go_simp; try (with_reducible rfl))
                    try simp only [Act.put, List.setIfInBounds_toArray, List.set_cons_zero, List.set_cons_succ]
                    refine wpAnyH_take (i := 29) (oi := ⟨_, _, _, _, _, _⟩) (v := ?_) rfl (by as_aux_lemma => kernel_rfl) (by as_aux_lemma => kernel_rfl) (by as_aux_lemma => kernel_rfl) (fun _ _ _ h => h) (Or.inl ⟨by rfl, ?_⟩) (by assumption) ?_
                    rotate_left
                    · (intro w hSw; (try dsimp only at hSw); go_simp; try (with_reducible rfl))
                    try simp only [Act.put, List.setIfInBounds_toArray, List.set_cons_zero, List.set_cons_succ]
                    refine wpAnyH_ready (rs := [30]) (by as_aux_lemma => kernel_rfl) (by simp) ?_
                    refine AllReadyH.cons (o := ⟨_, _, _, _, _, _⟩) rfl (fun K hK => ?_) AllReadyH.nil
                    go_simp
                    go_at_call 56; refine (markInts_any (p) (i) _ (by omega) (by omega) (by omega) (by omega)).mono ?_; rintro e w2 ⟨rfl, hb2⟩
                    refine hK.out _ _ ?_ (fun hHeld2 => ?_)
                    · exact ⟨cel_keep hb2 hHeld1.1, cel_keep hb2 hHeld1.2.1, cel_keep hb2 hHeld1.2.2.1, cel_keep hb2 hHeld1.2.2.2⟩
                    clear hK K
                    try simp only [Act.put, List.setIfInBounds_toArray, List.set_cons_zero, List.set_cons_succ]
                    refine wpAnyH_take (i := 31) (oi := ⟨_, _, _, _, _, _⟩) (v := ?_) rfl (by as_aux_lemma => kernel_rfl) (by as_aux_lemma => kernel_rfl) (by as_aux_lemma => kernel_rfl) (fun _ _ _ h => h) (Or.inl ⟨by rfl, ?_⟩) (by assumption) ?_
                    rotate_left
                    · (intro w hSw; (try dsimp only at hSw); go_simp; try (with_reducible rfl))
                    try simp only [Act.put, List.setIfInBounds_toArray, List.set_cons_zero, List.set_cons_succ]
                    refine wpAnyH_take (i := 32) (oi := ⟨_, _, _, _, _, _⟩) (v := ?_) rfl (by as_aux_lemma => kernel_rfl) (by as_aux_lemma => kernel_rfl) (by as_aux_lemma => kernel_rfl) (fun _ _ _ h => h) (Or.inl ⟨by rfl, ?_⟩) (by assumption) ?_
                    rotate_left
                    · (intro w hSw; (try dsimp only at hSw); go_simp; try (with_reducible rfl))
                    try simp only [Act.put, List.setIfInBounds_toArray, List.set_cons_zero, List.set_cons_succ]
                    refine wpAnyH_take (i := 33) (oi := ⟨_, _, _, _, _, _⟩) (v := ?_) rfl (by as_aux_lemma => kernel_rfl) (by as_aux_lemma => kernel_rfl) (by as_aux_lemma => kernel_rfl) (fun _ _ _ h => h) (Or.inl ⟨by rfl, ?_⟩) (by assumption) ?_
                    rotate_left
                    · (intro w hSw; (try dsimp only at hSw); go_simp; try (with_reducible rfl))
                    try simp only [Act.put, List.setIfInBounds_toArray, List.set_cons_zero, List.set_cons_succ]
                    refine wpAnyH_take (i := 34) (oi := ⟨_, _, _, _, _, _⟩) (v := ?_) rfl (by as_aux_lemma => kernel_rfl) (by as_aux_lemma => kernel_rfl) (by as_aux_lemma => kernel_rfl) (fun _ _ _ h => h) (Or.inl ⟨by rfl, ?_⟩) (by assumption) ?_
                    rotate_left
                    · (intro w hSw; (try dsimp only at hSw); go_simp; try (with_reducible rfl))
                    try simp only [Act.put, List.setIfInBounds_toArray, List.set_cons_zero, List.set_cons_succ]
                    refine wpAnyH_done (by as_aux_lemma => kernel_rfl) ?_ _
                    refine NoPanic.normal ?_
                    have hS : Below wr.heap.size wr w2 := bel_step (bel_drew hb1) hb2
                    have M5 := Kept.mk (M4.out.below HC.out hS)
                    have G5 := Kept.mk (G4.out.below hS)
                    clear hS hb1
                    go_wp2
                    go_roundw
                    case rel => exact ⟨i + 1, by omega, by go_num, M5.out, G5.out⟩
                    case measure => simp [intOf]; omega
                  · as_aux_lemma =>
                    have i4 : decide ((i : Int) < ((c.ns p : Nat) : Int)) = false := decide_eq_false (by omega)
                    go_wp2_with (fail)
                    refine wp_region_noPanic ?_
                    refine wp_region_held_drew (S := fun wx => wx.cell? ⟨B, p, none⟩ = some (.slice A (c.ns p) cc) ∧ wx.cell? ⟨G, p, none⟩ = some (.slice (some ⟨g2, 0, none⟩) (c.ns p + 64) c2) ∧ wx.cell? ⟨g2, i, none⟩ = some (.int .i64 (mkI p i))) (by as_aux_lemma => kernel_rfl) ⟨l1, l3, q0⟩ (fun hHeld => ?_)
                    refine wpAnyH_take (i := 0) (oi := ⟨_, _, _, _, _, _⟩) (v := ?_) rfl (by as_aux_lemma => kernel_rfl) (by as_aux_lemma => kernel_rfl) (by as_aux_lemma => kernel_rfl) (fun _ _ _ h => h) (Or.inl ⟨by rfl, ?_⟩) (by assumption) ?_
                    rotate_left
                    · (intro w hSw; (try dsimp only at hSw); go_simp; try (with_reducible rfl))
                    try simp only [Act.put, List.setIfInBounds_toArray, List.set_cons_zero, List.set_cons_succ]
                    refine wpAnyH_take (i := 1) (oi := ⟨_, _, _, _, _, _⟩) (v := ?_) rfl (by as_aux_lemma => kernel_rfl) (by as_aux_lemma => kernel_rfl) (by as_aux_lemma => kernel_rfl) (fun _ _ _ h => h) (Or.inl ⟨by rfl, ?_⟩) (by assumption) ?_
                    rotate_left
                    · (intro w hSw; (try dsimp only at hSw); go_simp; try (with_reducible rfl))
                    try simp only [Act.put, List.setIfInBounds_toArray, List.set_cons_zero, List.set_cons_succ]
                    refine wpAnyH_take (i := 2) (oi := ⟨_, _, _, _, _, _⟩) (v := ?_) rfl (by as_aux_lemma => kernel_rfl) (by as_aux_lemma => kernel_rfl) (by as_aux_lemma => kernel_rfl) (fun _ _ _ h => h) (Or.inl ⟨by rfl, ?_⟩) (by assumption) ?_
                    rotate_left
                    · (intro w hSw; (try dsimp only at hSw); go_simp; try (with_reducible rfl))
                    try simp only [Act.put, List.setIfInBounds_toArray, List.set_cons_zero, List.set_cons_succ]
                    refine wpAnyH_take (i := 3) (oi := ⟨_, _, _, _, _, _⟩) (v := ?_) rfl (by as_aux_lemma => kernel_rfl) (by as_aux_lemma => kernel_rfl) (by as_aux_lemma => kernel_rfl) (fun _ _ _ h => h) (Or.inl ⟨by rfl, ?_⟩) (by assumption) ?_
                    rotate_left
                    · (intro w hSw; (try dsimp only at hSw); go_simp; try (with_reducible rfl))
                    try simp only [Act.put, List.setIfInBounds_toArray, List.set_cons_zero, List.set_cons_succ]
                    refine wpAnyH_take (i := 4) (oi := ⟨_, _, _, _, _, _⟩) (v := ?_) rfl (by as_aux_lemma => kernel_rfl) (by as_aux_lemma => kernel_rfl) (by as_aux_lemma => kernel_rfl) (fun _ _ _ h => h) (Or.inl ⟨by rfl, ?_⟩) (by assumption) ?_
                    rotate_left
                    · (intro w hSw; (try dsimp only at hSw); go_simp; try (with_reducible rfl))
                    try simp only [Act.put, List.setIfInBounds_toArray, List.set_cons_zero, List.set_cons_succ]
                    refine wpAnyH_take (i := 5) (oi := ⟨_, _, _, _, _, _⟩) (v := ?_) rfl (by as_aux_lemma => kernel_rfl) (by as_aux_lemma => kernel_rfl) (by as_aux_lemma => kernel_rfl) (fun _ _ _ h => h) (Or.inl ⟨by rfl, ?_⟩) (by assumption) ?_
                    rotate_left
                    · (intro w hSw; (try dsimp only at hSw); go_simp; try (with_reducible rfl))
                    try simp only [Act.put, List.setIfInBounds_toArray, List.set_cons_zero, List.set_cons_succ]
                    refine wpAnyH_take (i := 6) (oi := ⟨_, _, _, _, _, _⟩) (v := ?_) rfl (by as_aux_lemma => kernel_rfl) (by as_aux_lemma => kernel_rfl) (by as_aux_lemma => kernel_rfl) (fun _ _ _ h => h) (Or.inl ⟨by rfl, ?_⟩) (by assumption) ?_
                    rotate_left
                    · (intro w hSw; (try dsimp only at hSw); go_simp; try (with_reducible rfl))
                    try simp only [Act.put, List.setIfInBounds_toArray, List.set_cons_zero, List.set_cons_succ]
                    refine wpAnyH_take (i := 7) (oi := ⟨_, _, _, _, _, _⟩) (v := ?_) rfl (by as_aux_lemma => kernel_rfl) (by as_aux_lemma => kernel_rfl) (by as_aux_lemma => kernel_rfl) (fun _ _ _ h => h) (Or.inl ⟨by rfl, ?_⟩) (by assumption) ?_
                    rotate_left
                    · (intro w hSw; (try dsimp only at hSw); go_simp; try (with_reducible rfl))
                    try simp only [Act.put, List.setIfInBounds_toArray, List.set_cons_zero, List.set_cons_succ]
                    refine wpAnyH_take (i := 8) (oi := ⟨_, _, _, _, _, _⟩) (v := ?_) rfl (by as_aux_lemma => kernel_rfl) (by as_aux_lemma => kernel_rfl) (by as_aux_lemma => kernel_rfl) (fun _ _ _ h => h) (Or.inl ⟨by rfl, ?_⟩) (by assumption) ?_
                    rotate_left
                    · (intro w hSw; (try dsimp only at hSw); go_simp; try (with_reducible rfl))
                    try simp only [Act.put, List.setIfInBounds_toArray, List.set_cons_zero, List.set_cons_succ]
                    refine wpAnyH_ready (rs := [9]) (by as_aux_lemma => kernel_rfl) (by simp) ?_
                    refine AllReadyH.cons (o := ⟨_, _, _, _, _, _⟩) rfl (fun K hK => ?_) AllReadyH.nil
                    go_simp
                    go_at_call 56; refine (markInts_any (p) (i) _ (by omega) (by omega) (by omega) (by omega)).mono ?_; rintro e w1 ⟨rfl, hb1⟩
                    refine hK.out _ _ ?_ (fun hHeld1 => ?_)
                    · exact ⟨cel_keep (bel_drew hb1) l1, cel_keep (bel_drew hb1) l3, cel_keep (bel_drew hb1) q0⟩
                    clear hK K
                    try simp only [Act.put, List.setIfInBounds_toArray, List.set_cons_zero, List.set_cons_succ]
                    refine wpAnyH_take (i := 10) (oi := ⟨_, _, _, _, _, _⟩) (v := ?_) rfl (by as_aux_lemma => kernel_rfl) (by as_aux_lemma => kernel_rfl) (by as_aux_lemma => kernel_rfl) (fun _ _ _ h => h) (Or.inl ⟨by rfl, ?_⟩) (by assumption) ?_
                    rotate_left
                    · (intro w hSw; (try dsimp only at hSw); go_simp; try (with_reducible rfl))
                    try simp only [Act.put, List.setIfInBounds_toArray, List.set_cons_zero, List.set_cons_succ]
                    refine wpAnyH_take (i := 11) (oi := ⟨_, _, _, _, _, _⟩) (v := ?_) rfl (by as_aux_lemma => kernel_rfl) (by as_aux_lemma => kernel_rfl) (by as_aux_lemma => kernel_rfl) (fun _ _ _ h => h) (Or.inl ⟨by rfl, ?_⟩) (by assumption) ?_
                    rotate_left
                    · (intro w hSw; (try dsimp only at hSw); go_simp; try (with_reducible rfl))
                    try simp only [Act.put, List.setIfInBounds_toArray, List.set_cons_zero, List.set_cons_succ]
                    refine wpAnyH_take (i := 12) (oi := ⟨_, _, _, _, _, _⟩) (v := ?_) rfl (by as_aux_lemma => kernel_rfl) (by as_aux_lemma => kernel_rfl) (by as_aux_lemma => kernel_rfl) (fun _ _ _ h => h) (Or.inl ⟨by rfl, ?_⟩) (by assumption) ?_
                    rotate_left
                    · (intro w hSw; (try dsimp only at hSw); go_simp; try (with_reducible rfl))
                    try simp only [Act.put, List.setIfInBounds_toArray, List.set_cons_zero, List.set_cons_succ]
                    refine wpAnyH_take (i := 13) (oi := ⟨_, _, _, _, _, _⟩) (v := ?_) rfl (by as_aux_lemma => kernel_rfl) (by as_aux_lemma => kernel_rfl) (by as_aux_lemma => kernel_rfl) (fun _ _ _ h => h) (Or.inl ⟨by rfl, ?_⟩) (by assumption) ?_
                    rotate_left
                    · (intro w hSw; (try dsimp only at hSw); go_simp; try (with_reducible rfl))
                    try simp only [Act.put, List.setIfInBounds_toArray, List.set_cons_zero, List.set_cons_succ]
                    refine wpAnyH_take (i := 14) (oi := ⟨_, _, _, _, _, _⟩) (v := ?_) rfl (by as_aux_lemma => kernel_rfl) (by as_aux_lemma => kernel_rfl) (by as_aux_lemma => kernel_rfl) (fun _ _ _ h => h) (Or.inl ⟨by rfl, ?_⟩) (by assumption) ?_
                    rotate_left
                    · (intro w hSw; (try dsimp only at hSw); go_simp; try (with_reducible rfl))
                    try simp only [Act.put, List.setIfInBounds_toArray, List.set_cons_zero, List.set_cons_succ]
                    refine wpAnyH_take (i := 15) (oi := ⟨_, _, _, _, _, _⟩) (v := ?_) rfl (by as_aux_lemma => kernel_rfl) (by as_aux_lemma => kernel_rfl) (by as_aux_lemma => kernel_rfl) (fun _ _ _ h => h) (Or.inl ⟨by rfl, ?_⟩) (by assumption) ?_
                    rotate_left
                    · (intro w hSw; (try dsimp only at hSw); go_simp; try (with_reducible rfl))
                    try simp only [Act.put, List.setIfInBounds_toArray, List.set_cons_zero, List.set_cons_succ]
                    refine wpAnyH_take (i := 16) (oi := ⟨_, _, _, _, _, _⟩) (v := ?_) rfl (by as_aux_lemma => kernel_rfl) (by as_aux_lemma => kernel_rfl) (by as_aux_lemma => kernel_rfl) (fun _ _ _ h => h) (Or.inl ⟨by rfl, ?_⟩) (by assumption) ?_
                    rotate_left
                    · (intro w hSw; (try dsimp only at hSw); go_simp; try (with_reducible rfl))
                    try simp only [Act.put, List.setIfInBounds_toArray, List.set_cons_zero, List.set_cons_succ]
                    refine wpAnyH_take (i := 17) (oi := ⟨_, _, _, _, _, _⟩) (v := ?_) rfl (by as_aux_lemma => kernel_rfl) (by as_aux_lemma => kernel_rfl) (by as_aux_lemma => kernel_rfl) (fun _ _ _ h => h) (Or.inl ⟨by rfl, ?_⟩) (by assumption) ?_
                    rotate_left
                    · (intro w hSw; (try dsimp only at hSw); go_simp; try (with_reducible rfl))
                    try simp only [Act.put, List.setIfInBounds_toArray, List.set_cons_zero, List.set_cons_succ]
                    refine wpAnyH_take (i := 18) (oi := ⟨_, _, _, _, _, _⟩) (v := ?_) rfl (by as_aux_lemma => kernel_rfl) (by as_aux_lemma => kernel_rfl) (by as_aux_lemma => kernel_rfl) (fun _ _ _ h => h) (Or.inl ⟨by rfl, ?_⟩) (by assumption) ?_
                    rotate_left
                    · (intro w hSw; (try dsimp only at hSw); go_simp; try (with_reducible rfl))
                    try simp only [Act.put, List.setIfInBounds_toArray, List.set_cons_zero, List.set_cons_succ]
                    refine wpAnyH_take (i := 19) (oi := ⟨_, _, _, _, _, _⟩) (v := ?_) rfl (by as_aux_lemma => kernel_rfl) (by as_aux_lemma => kernel_rfl) (by as_aux_lemma => kernel_rfl) (fun _ _ _ h => h) (Or.inl ⟨by rfl, ?_⟩) (by assumption) ?_
                    rotate_left
                    · (intro w hSw; (try dsimp only at hSw); go_simp; try (with_reducible rfl))
                    try simp only [Act.put, List.setIfInBounds_toArray, List.set_cons_zero, List.set_cons_succ]
                    refine wpAnyH_take (i := 20) (oi := ⟨_, _, _, _, _, _⟩) (v := ?_) rfl (by as_aux_lemma => kernel_rfl) (by as_aux_lemma => kernel_rfl) (by as_aux_lemma => kernel_rfl) (fun _ _ _ h => h) (Or.inl ⟨by rfl, ?_⟩) (by assumption) ?_
                    rotate_left
                    · (intro w hSw; (try dsimp only at hSw); go_simp; try (with_reducible rfl))
                    try simp only [Act.put, List.setIfInBounds_toArray, List.set_cons_zero, List.set_cons_succ]
                    refine wpAnyH_take (i := 21) (oi := ⟨_, _, _, _, _, _⟩) (v := undef) rfl (by as_aux_lemma => kernel_rfl) (by as_aux_lemma => kernel_rfl) (by as_aux_lemma => kernel_rfl) (fun _ _ _ h => h) (Or.inr ⟨by rfl, rfl⟩) (by assumption) ?_
                    try simp only [Act.put, List.setIfInBounds_toArray, List.set_cons_zero, List.set_cons_succ]
                    refine wpAnyH_take (i := 22) (oi := ⟨_, _, _, _, _, _⟩) (v := undef) rfl (by as_aux_lemma => kernel_rfl) (by as_aux_lemma => kernel_rfl) (by as_aux_lemma => kernel_rfl) (fun _ _ _ h => h) (Or.inr ⟨by rfl, rfl⟩) (by assumption) ?_
                    try simp only [Act.put, List.setIfInBounds_toArray, List.set_cons_zero, List.set_cons_succ]
                    refine wpAnyH_take (i := 23) (oi := ⟨_, _, _, _, _, _⟩) (v := undef) rfl (by as_aux_lemma => kernel_rfl) (by as_aux_lemma => kernel_rfl) (by as_aux_lemma => kernel_rfl) (fun _ _ _ h => h) (Or.inr ⟨by rfl, rfl⟩) (by assumption) ?_
                    try simp only [Act.put, List.setIfInBounds_toArray, List.set_cons_zero, List.set_cons_succ]
                    refine wpAnyH_take (i := 24) (oi := ⟨_, _, _, _, _, _⟩) (v := undef) rfl (by as_aux_lemma => kernel_rfl) (by as_aux_lemma => kernel_rfl) (by as_aux_lemma => kernel_rfl) (fun _ _ _ h => h) (Or.inr ⟨by rfl, rfl⟩) (by assumption) ?_
                    try simp only [Act.put, List.setIfInBounds_toArray, List.set_cons_zero, List.set_cons_succ]
                    refine wpAnyH_take (i := 25) (oi := ⟨_, _, _, _, _, _⟩) (v := undef) rfl (by as_aux_lemma => kernel_rfl) (by as_aux_lemma => kernel_rfl) (by as_aux_lemma => kernel_rfl) (fun _ _ _ h => h) (Or.inr ⟨by rfl, rfl⟩) (by assumption) ?_
                    try simp only [Act.put, List.setIfInBounds_toArray, List.set_cons_zero, List.set_cons_succ]
                    refine wpAnyH_take (i := 26) (oi := ⟨_, _, _, _, _, _⟩) (v := undef) rfl (by as_aux_lemma => kernel_rfl) (by as_aux_lemma => kernel_rfl) (by as_aux_lemma => kernel_rfl) (fun _ _ _ h => h) (Or.inr ⟨by rfl, rfl⟩) (by assumption) ?_
                    try simp only [Act.put, List.setIfInBounds_toArray, List.set_cons_zero, List.set_cons_succ]
                    refine wpAnyH_take (i := 27) (oi := ⟨_, _, _, _, _, _⟩) (v := undef) rfl (by as_aux_lemma => kernel_rfl) (by as_aux_lemma => kernel_rfl) (by as_aux_lemma => kernel_rfl) (fun _ _ _ h => h) (Or.inr ⟨by rfl, rfl⟩) (by assumption) ?_
                    try simp only [Act.put, List.setIfInBounds_toArray, List.set_cons_zero, List.set_cons_succ]
                    refine wpAnyH_take (i := 28) (oi := ⟨_, _, _, _, _, _⟩) (v := undef) rfl (by as_aux_lemma => kernel_rfl) (by as_aux_lemma => kernel_rfl) (by as_aux_lemma => kernel_rfl) (fun _ _ _ h => h) (Or.inr ⟨by rfl, rfl⟩) (by assumption) ?_
                    try simp only [Act.put, List.setIfInBounds_toArray, List.set_cons_zero, List.set_cons_succ]
                    refine wpAnyH_take (i := 29) (oi := ⟨_, _, _, _, _, _⟩) (v := undef) rfl (by as_aux_lemma => kernel_rfl) (by as_aux_lemma => kernel_rfl) (by as_aux_lemma => kernel_rfl) (fun _ _ _ h => h) (Or.inr ⟨by rfl, rfl⟩) (by assumption) ?_
                    try simp only [Act.put, List.setIfInBounds_toArray, List.set_cons_zero, List.set_cons_succ]
                    refine wpAnyH_take (i := 30) (oi := ⟨_, _, _, _, _, _⟩) (v := undef) rfl (by as_aux_lemma => kernel_rfl) (by as_aux_lemma => kernel_rfl) (by as_aux_lemma => kernel_rfl) (fun _ _ _ h => h) (Or.inr ⟨by rfl, rfl⟩) (by assumption) ?_
                    try simp only [Act.put, List.setIfInBounds_toArray, List.set_cons_zero, List.set_cons_succ]
                    refine wpAnyH_take (i := 31) (oi := ⟨_, _, _, _, _, _⟩) (v := undef) rfl (by as_aux_lemma => kernel_rfl) (by as_aux_lemma => kernel_rfl) (by as_aux_lemma => kernel_rfl) (fun _ _ _ h => h) (Or.inr ⟨by rfl, rfl⟩) (by assumption) ?_
                    try simp only [Act.put, List.setIfInBounds_toArray, List.set_cons_zero, List.set_cons_succ]
                    refine wpAnyH_take (i := 32) (oi := ⟨_, _, _, _, _, _⟩) (v := undef) rfl (by as_aux_lemma => kernel_rfl) (by as_aux_lemma => kernel_rfl) (by as_aux_lemma => kernel_rfl) (fun _ _ _ h => h) (Or.inr ⟨by rfl, rfl⟩) (by assumption) ?_
                    try simp only [Act.put, List.setIfInBounds_toArray, List.set_cons_zero, List.set_cons_succ]
                    refine wpAnyH_take (i := 33) (oi := ⟨_, _, _, _, _, _⟩) (v := ?_) rfl (by as_aux_lemma => kernel_rfl) (by as_aux_lemma => kernel_rfl) (by as_aux_lemma => kernel_rfl) (fun _ _ _ h => h) (Or.inl ⟨by rfl, ?_⟩) (by assumption) ?_
                    rotate_left
                    · (intro w hSw; (try dsimp only at hSw); go_simp; try (with_reducible rfl))
                    try simp only [Act.put, List.setIfInBounds_toArray, List.set_cons_zero, List.set_cons_succ]
                    refine wpAnyH_take (i := 34) (oi := ⟨_, _, _, _, _, _⟩) (v := ?_) rfl (by as_aux_lemma => kernel_rfl) (by as_aux_lemma => kernel_rfl) (by as_aux_lemma => kernel_rfl) (fun _ _ _ h => h) (Or.inl ⟨by rfl, ?_⟩) (by assumption) ?_
                    rotate_left
                    · (intro w hSw; (try dsimp only at hSw); go_simp; try (with_reducible rfl))
                    try simp only [Act.put, List.setIfInBounds_toArray, List.set_cons_zero, List.set_cons_succ]
                    refine wpAnyH_done (by as_aux_lemma => kernel_rfl) ?_ _
                    refine NoPanic.normal ?_
                    have hS : Below wr.heap.size wr w1 := bel_drew hb1
                    have M5 := Kept.mk (M4.out.below HC.out hS)
                    have G5 := Kept.mk (G4.out.below hS)
                    clear hS hb1
                    go_wp2
                    go_roundw
                    case rel => exact ⟨i + 1, by omega, by go_num, M5.out, G5.out⟩
                    case measure => simp [intOf]; omega
                · obtain rfl : i = c.ns p + 64 := by omega
                  go_wp2
                  go_roundw
                  case rel => exact ⟨p + 1, by omega, by go_num, M4.out, G4.out⟩
                  case measure => simp [intOf]; omega
            · obtain rfl : k = p := by omega
              have G4 := Kept.mk (G3.out.reset (m' := 64) (ys' := fun j => marks c.mq j (c.ns j) ++ marks c.mq (j + k) 64))
              clear G3
              -- MARK4
              go_wp2
              go_loopw [11] (fun n wx => ∃ (n' : Nat) (us : List Value), n' ≤ k ∧ n = .int .i64 n' ∧ Mar c wx ∧ Gs c G us n' 64 (fun j => marks c.mq j (c.ns j) ++ marks c.mq (j + k) 64) wx) (fun n _ => k - (intOf n).toNat)
              case atStart => exact ⟨0, _, by omega, rfl, M3.out, G4.out⟩
              case round =>
                obtain ⟨n, us, hnk, rfl, hM, hG⟩ := hrel
                have M3 := Kept.mk hM
                have G3 := Kept.mk hG
                clear hM hG
                by_cases hlt : n < k
                · obtain ⟨v, hv⟩ := M3.out.1.get (j := n) (by rw [HK.out]; exact hlt)
                  obtain ⟨A, cc, rfl, _⟩ := own_slice (M3.out.2 n v hv)
                  have HV := Kept.mk hv
                  have hnn := HN.out n
                  have l0 : wr.cell? ⟨B, n, none⟩ = some (.slice A (c.ns n) cc) := LS.out _ _ _ M3.out.1 hv
                  have i0 : (0 : Int) ≤ (n : Int) := by omega
                  have i1 : (n : Int) < (k : Int) := by omega
                  have hlow : B0 ≤ wr.heap.size := by have h1 := M3.out.1.1.size; rw [HW.out] at h1; exact Nat.le_trans hB0 h1
                  have FR := Kept.mk (Free.new HC.out M3.out G3.out)
                  clear hv
                  obtain ⟨wo, rfl⟩ : ∃ wo : World, wo = wr := ⟨_, rfl⟩
                  go_wp2_with (at_make; refine wpList_make_full _ rfl _ _ 27 rfl B0 3 iE (.int .i64 0) 1 Tryz.underlying27 hiE hzE hsE .i64 .i64 _ _ 64 (by rfl) (by rfl) (by rfl) (by rfl) (by rw [hbE]; omega) (by decide) hlow ?_; intro w2 hown2 hgrow2; have hb2 := below_of_grown hgrow2; have M4 := Kept.mk (M3.out.below HC.out hb2); have G4 := Kept.mk (G3.out.below hb2); have O4 := Kept.mk hown2; clear hown2 hgrow2 hb2)
                  obtain ⟨X, hXe⟩ : ∃ X, X = wo.heap.size := ⟨_, rfl⟩
                  rw [← hXe] at FR O4 ⊢
                  clear hXe hlow l0
                  have hlen : ∀ k i, (c.mq k i).length = 1 := fun a b => by rw [HM.out]; rfl
                  go_wp2
                  go_loopw [13] (fun i wx => ∃ i' : Nat, i' ≤ 64 ∧ i = .int .i64 i' ∧ Mar c wx ∧ Gs c G us n 64 (fun j => marks c.mq j (c.ns j) ++ marks c.mq (j + k) 64) wx ∧ ∃ rest, wx.ownsRow B0 3 1 (.slice (some ⟨X, 0, none⟩) 64 64) 64 (marks c.mq (n + k) i' ++ rest)) (fun i _ => 64 - (intOf i).toNat)
                  case atStart => exact ⟨0, by omega, rfl, M4.out, G4.out, _, O4.out⟩
                  case round =>
                    obtain ⟨i, hi, rfl, hM, hG, rest, hO⟩ := hrel
                    have M5 := Kept.mk hM
                    have G5 := Kept.mk hG
                    have O5 := Kept.mk hO
                    have l1 : wr.cell? ⟨B, n, none⟩ = some (.slice A (c.ns n) cc) := LS.out _ _ _ hM.1 HV.out
                    clear hM hG hO
                    by_cases hlt2 : i < 64
                    · as_aux_lemma =>
                      have i2 : (0 : Int) ≤ (i : Int) := by omega
                      have i3 : (i : Int) < 64 := by omega
                      go_wp2_with (fail)
                      refine (markInts_any ((n : Int) + k) (i) _ (by omega) (by omega) (by omega) (by omega)).mono ?_; rintro e w1 ⟨rfl, hb1⟩
                      have M6 := Kept.mk (M5.out.below HC.out hb1)
                      have G6 := Kept.mk (G5.out.below hb1)
                      have O6 := Kept.mk (own_below O5.out hb1)
                      have hcl := fun j (hj : j < 1) => own_at O6.out (i * 1 + j) _ (List.getElem?_eq_getElem (by have h1 := O6.out.1; omega))
                      obtain ⟨y0, z0⟩ : ∃ y, w1.cell? ⟨X, i * 1 + 0, none⟩ = some y := ⟨_, hcl 0 (by omega)⟩
                      have f0 : w1.frozen? ⟨X, i, none⟩ = false := own_unfrozen O6.out _
                      clear hcl hb1
                      simp only [Nat.add_zero, Nat.mul_one] at z0
                      have hst := FR.out.store M6.out G6.out (i * 1) (c.mq (n + k) i)
                      have hms := many_store hlen hlt2 O6.out
                      have hq : c.mq (n + k) i = [.int .i64 (mkI ((n : Int) + k) i)] := by rw [HM.out]; rfl
                      rw [hq] at hst hms
                      simp only [Nat.mul_one, World.setCells] at hst hms
                      have ST := Kept.mk hst
                      have MS := Kept.mk hms
                      clear hst hms hq
                      go_wp2_with (fail)
                      go_roundw
                      case rel => exact ⟨i + 1, by omega, by go_num, ST.out.1, ST.out.2, MS.out⟩
                      case measure => simp [intOf]; omega
                    · as_aux_lemma =>
                      obtain rfl : i = 64 := by omega
                      have hnews := many_done O5.out
                      have HNW := Kept.mk hnews
                      have N5 := Kept.mk (Now.first HC.out G5.out HV.out)
                      have U5 := Kept.mk (M5.out.2 n _ HV.out)
                      have U6 : Kept (wr.ownsRow B0 3 1 (.slice A (c.ns n) cc) (c.ns n) (marks c.mq n (c.ns n))) := ⟨by have h := U5.out; rw [HB0.out, HE.out, HZ.out] at h; exact h⟩
                      have hl5 : B0 ≤ wr.heap.size := by have h1 := M5.out.1.1.size; rw [HW.out] at h1; exact Nat.le_trans hB0 h1
                      have hone : Kept (∀ u ∈ marks c.mq (n + k) 64, u.oneCell' = true) := ⟨by rw [HM.out]; exact oneInts 64 (n + k)⟩
                      have hml : Kept ((marks c.mq (n + k) 64).length = 64 * 1) := ⟨marks_length hlen _ _⟩
                      clear hnews hlen
                      go_wp2_with (at_builtin; refine wpList_append_share _ rfl (.tmp 148) (.tmp 149) 27 rfl B0 3 iE (.int .i64 0) 1 8 Tryz.underlying27 hiE hzE hsE hbE rfl (by decide) (.slice A (c.ns n) cc) (c.ns n) (marks c.mq n (c.ns n)) (by rfl) U6.out ⟨X, 0, none⟩ 64 64 (marks c.mq (n + k) 64) (by rfl) hml.out HNW.out hone.out (by unfold maxLen; omega) (by omega) hl5 ?_; intro v5 w5 hown5 hgrow5 hat5 hsh5; have hX := gather HC.out M5.out G5.out N5.out U5.out (Nat.le_refl _) hgrow5 hat5 (by rw [HE.out, HZ.out]; exact hsh5); have hY : w5.ownsRow c.B0 c.E c.sz v5 (c.ns n + 64) (marks c.mq n (c.ns n) ++ marks c.mq (n + k) 64) := (by rw [HB0.out, HE.out, HZ.out]; exact hown5); obtain ⟨A7, c7, rfl, _⟩ := own_slice hY; obtain ⟨_, _, l2⟩ := hX.2.1.get (j := n) (by rw [HK.out]; exact hlt); have f2 : w5.frozen? ⟨G, n, none⟩ = false := own_unfrozen hX.2.1.own n; have hst := gs_store HC.out hX.1.1 hX.1.2 hX.2.1.lt.1 hX.2.1 hY hX.2.2; have ST := Kept.mk hst; clear hst hX hY hown5 hgrow5 hat5 hsh5)
                      go_roundw
                      case rel => exact ⟨n + 1, _, by omega, by go_num, ⟨ST.out.1, ST.out.2.1⟩, ST.out.2.2⟩
                      case measure => simp [intOf]; omega
                · obtain rfl : k = n := by omega
                  -- MARK5
                  go_wp2
                  go_loopw [14] (fun n wx => ∃ n' : Nat, n' ≤ k ∧ n = .int .i64 n' ∧ Mar c wx ∧ Gs c G us k 64 (fun j => marks c.mq j (c.ns j) ++ marks c.mq (j + k) 64) wx) (fun n _ => k - (intOf n).toNat)
                  case atStart => exact ⟨0, by omega, rfl, M3.out, G3.out⟩
                  case round =>
                    obtain ⟨p, hp, rfl, hM, hG⟩ := hrel
                    have M3 := Kept.mk hM
                    have G3 := Kept.mk hG
                    clear hM hG
                    by_cases hlt : p < k
                    · obtain ⟨v, hv⟩ := M3.out.1.get (j := p) (by rw [HK.out]; exact hlt)
                      obtain ⟨A, cc, rfl, _⟩ := own_slice (M3.out.2 p v hv)
                      obtain ⟨u, hu, l2⟩ := G3.out.get (j := p) (by rw [HK.out]; exact hlt)
                      obtain ⟨A2, c2, rfl, _⟩ := own_slice (G3.out.row p u hlt hu)
                      have HV := Kept.mk hv
                      have HU := Kept.mk hu
                      have hnn := HN.out p
                      have l0 : wr.cell? ⟨B, p, none⟩ = some (.slice A (c.ns p) cc) := LS.out _ _ _ M3.out.1 hv
                      have i0 : (0 : Int) ≤ (p : Int) := by omega
                      have i1 : (p : Int) < (k : Int) := by omega
                      clear hv hu
                      obtain ⟨wo, rfl⟩ : ∃ wo : World, wo = wr := ⟨_, rfl⟩
                      go_wp2
                      go_loopw [15] (fun i wx => ∃ i' : Nat, i' ≤ c.ns p ∧ i = .int .i64 i' ∧ Mar c wx ∧ Gs c G us k 64 (fun j => marks c.mq j (c.ns j) ++ marks c.mq (j + k) 64) wx) (fun i _ => c.ns p - (intOf i).toNat)
                      case atStart => exact ⟨0, by omega, rfl, M3.out, G3.out⟩
                      case round =>
                        obtain ⟨i, hi, rfl, hM, hG⟩ := hrel
                        have M4 := Kept.mk hM
                        have G4 := Kept.mk hG
                        have l1 : wr.cell? ⟨B, p, none⟩ = some (.slice A (c.ns p) cc) := LS.out _ _ _ hM.1 HV.out
                        have l3 : wr.cell? ⟨G, p, none⟩ = some (.slice A2 (c.ns p + 64) c2) := own_at hG.own p _ HU.out
                        clear hM hG l0 l2
                        by_cases hlt2 : i < c.ns p
                        · have hlen : ∀ k i, (c.mq k i).length = 1 := fun a b => by rw [HM.out]; rfl
                          have hrow := G4.out.row p _ hlt HU.out
                          rw [HZ.out] at hrow
                          obtain ⟨g2, c2', e, hq⟩ := row_cells (i := i) hlen hrow hlt2 (by omega)
                          cases e
                          rw [HM.out] at hq
                          have q0 : wr.cell? ⟨g2, i, none⟩ = some (.int .i64 (mkI p i)) := (by have h := hq 0 _ rfl; rwa [Nat.mul_one, Nat.add_zero] at h)
                          clear hq hrow
                          have i2 : (0 : Int) ≤ (i : Int) := by omega
                          have i3 : (i : Int) < ((c.ns p + 64 : Nat) : Int) := by omega
                          have i5 : (i : Int) < ((c.ns p : Nat) : Int) + 64 := by omega
                          as_aux_lemma =>
                          have hin : i < c.ns p := hlt2
                          obtain ⟨g, cc', e, hr⟩ := row_cells (i := i) (ys := []) hlen (by rw [List.append_nil]; have := M4.out.2 p _ HV.out; rw [HZ.out] at this; exact this) hin (by omega)
                          cases e
                          rw [HM.out] at hr
                          have r0 : wr.cell? ⟨g, i, none⟩ = some (.int .i64 (mkI p i)) := (by have h := hr 0 _ rfl; rwa [Nat.mul_one, Nat.add_zero] at h)
                          clear hr
                          have i4 : (i : Int) < ((c.ns p : Nat) : Int) := by omega
                          go_wp2_with (fail)
                          refine wp_region_noPanic ?_
                          refine wp_region_held_drew (S := fun wx => wx.cell? ⟨B, p, none⟩ = some (.slice (some ⟨g, 0, none⟩) (c.ns p) cc) ∧ wx.cell? ⟨G, p, none⟩ = some (.slice (some ⟨g2, 0, none⟩) (c.ns p + 64) c2) ∧ wx.cell? ⟨g2, i, none⟩ = some (.int .i64 (mkI p i)) ∧ wx.cell? ⟨g, i, none⟩ = some (.int .i64 (mkI p i))) (by as_aux_lemma => kernel_rfl) ⟨l1, l3, q0, r0⟩ (fun hHeld => ?_)
                          refine wpAnyH_take (i := 0) (oi := ⟨_, _, _, _, _, _⟩) (v := ?_) rfl (by as_aux_lemma => kernel_rfl) (by as_aux_lemma => kernel_rfl) (by as_aux_lemma => kernel_rfl) (fun _ _ _ h => h) (Or.inl ⟨by rfl, ?_⟩) (by assumption) ?_
                          rotate_left
                          · (intro w hSw; (try dsimp only at hSw); go_simp; try (with_reducible rfl))
                          try simp only [Act.put, List.setIfInBounds_toArray, List.set_cons_zero, List.set_cons_succ]
                          refine wpAnyH_take (i := 1) (oi := ⟨_, _, _, _, _, _⟩) (v := ?_) rfl (by as_aux_lemma => kernel_rfl) (by as_aux_lemma => kernel_rfl) (by as_aux_lemma => kernel_rfl) (fun _ _ _ h => h) (Or.inl ⟨by rfl, ?_⟩) (by assumption) ?_
                          rotate_left
                          · (intro w hSw; (try dsimp only at hSw); go_simp; try (with_reducible rfl))
                          try simp only [Act.put, List.setIfInBounds_toArray, List.set_cons_zero, List.set_cons_succ]
                          refine wpAnyH_take (i := 2) (oi := ⟨_, _, _, _, _, _⟩) (v := ?_) rfl (by as_aux_lemma => kernel_rfl) (by as_aux_lemma => kernel_rfl) (by as_aux_lemma => kernel_rfl) (fun _ _ _ h => h) (Or.inl ⟨by rfl, ?_⟩) (by assumption) ?_
                          rotate_left
                          · (intro w hSw; (try dsimp only at hSw); go_simp; try (with_reducible rfl))
                          try simp only [Act.put, List.setIfInBounds_toArray, List.set_cons_zero, List.set_cons_succ]
                          refine wpAnyH_take (i := 3) (oi := ⟨_, _, _, _, _, _⟩) (v := ?_) rfl (by as_aux_lemma => kernel_rfl) (by as_aux_lemma => kernel_rfl) (by as_aux_lemma => kernel_rfl) (fun _ _ _ h => h) (Or.inl ⟨by rfl, ?_⟩) (by assumption) ?_
                          rotate_left
                          · (intro w hSw; (try dsimp only at hSw); go_simp; try (with_reducible rfl))
                          try simp only [Act.put, List.setIfInBounds_toArray, List.set_cons_zero, List.set_cons_succ]
                          refine wpAnyH_take (i := 4) (oi := ⟨_, _, _, _, _, _⟩) (v := ?_) rfl (by as_aux_lemma => kernel_rfl) (by as_aux_lemma => kernel_rfl) (by as_aux_lemma => kernel_rfl) (fun _ _ _ h => h) (Or.inl ⟨by rfl, ?_⟩) (by assumption) ?_
                          rotate_left
                          · (intro w hSw; (try dsimp only at hSw); go_simp; try (with_reducible rfl))
                          try simp only [Act.put, List.setIfInBounds_toArray, List.set_cons_zero, List.set_cons_succ]
                          refine wpAnyH_take (i := 5) (oi := ⟨_, _, _, _, _, _⟩) (v := ?_) rfl (by as_aux_lemma => kernel_rfl) (by as_aux_lemma => kernel_rfl) (by as_aux_lemma => kernel_rfl) (fun _ _ _ h => h) (Or.inl ⟨by rfl, ?_⟩) (by assumption) ?_
                          rotate_left
                          · (intro w hSw; (try dsimp only at hSw); go_simp; try (with_reducible rfl))
                          try simp only [Act.put, List.setIfInBounds_toArray, List.set_cons_zero, List.set_cons_succ]
                          refine wpAnyH_take (i := 6) (oi := ⟨_, _, _, _, _, _⟩) (v := ?_) rfl (by as_aux_lemma => kernel_rfl) (by as_aux_lemma => kernel_rfl) (by as_aux_lemma => kernel_rfl) (fun _ _ _ h => h) (Or.inl ⟨by rfl, ?_⟩) (by assumption) ?_
                          rotate_left
                          · (intro w hSw; (try dsimp only at hSw); go_simp; try (with_reducible rfl))
                          try simp only [Act.put, List.setIfInBounds_toArray, List.set_cons_zero, List.set_cons_succ]
                          refine wpAnyH_take (i := 7) (oi := ⟨_, _, _, _, _, _⟩) (v := ?_) rfl (by as_aux_lemma => kernel_rfl) (by as_aux_lemma => kernel_rfl) (by as_aux_lemma => kernel_rfl) (fun _ _ _ h => h) (Or.inl ⟨by rfl, ?_⟩) (by assumption) ?_
                          rotate_left
                          · (intro w hSw; (try dsimp only at hSw); go_simp; try (with_reducible rfl))
                          try simp only [Act.put, List.setIfInBounds_toArray, List.set_cons_zero, List.set_cons_succ]
                          refine wpAnyH_take (i := 8) (oi := ⟨_, _, _, _, _, _⟩) (v := ?_) rfl (by as_aux_lemma => kernel_rfl) (by as_aux_lemma => kernel_rfl) (by as_aux_lemma => kernel_rfl) (fun _ _ _ h => h) (Or.inl ⟨by rfl, ?_⟩) (by assumption) ?_
                          rotate_left
                          · (intro w hSw; (try dsimp only at hSw); go_simp; try (with_reducible rfl))
                          try simp only [Act.put, List.setIfInBounds_toArray, List.set_cons_zero, List.set_cons_succ]
                          refine wpAnyH_ready (rs := [9]) (by as_aux_lemma => kernel_rfl) (by simp) ?_
                          refine AllReadyH.cons (o := ⟨_, _, _, _, _, _⟩) rfl (fun K hK => ?_) AllReadyH.nil
                          go_simp
                          go_at_call 56; refine (markInts_any (p) (i) _ (by omega) (by omega) (by omega) (by omega)).mono ?_; rintro e w1 ⟨rfl, hb1⟩
                          refine hK.out _ _ ?_ (fun hHeld1 => ?_)
                          · exact ⟨cel_keep (bel_drew hb1) l1, cel_keep (bel_drew hb1) l3, cel_keep (bel_drew hb1) q0, cel_keep (bel_drew hb1) r0⟩
                          clear hK K
                          try simp only [Act.put, List.setIfInBounds_toArray, List.set_cons_zero, List.set_cons_succ]
                          refine wpAnyH_take (i := 10) (oi := ⟨_, _, _, _, _, _⟩) (v := ?_) rfl (by as_aux_lemma => kernel_rfl) (by as_aux_lemma => kernel_rfl) (by as_aux_lemma => kernel_rfl) (fun _ _ _ h => h) (Or.inl ⟨by rfl, ?_⟩) (by assumption) ?_
                          rotate_left
                          · (intro w hSw; (try dsimp only at hSw); go_simp; try (with_reducible rfl))
                          try simp only [Act.put, List.setIfInBounds_toArray, List.set_cons_zero, List.set_cons_succ]
                          refine wpAnyH_take (i := 11) (oi := ⟨_, _, _, _, _, _⟩) (v := ?_) rfl (by as_aux_lemma => kernel_rfl) (by as_aux_lemma => kernel_rfl) (by as_aux_lemma => kernel_rfl) (fun _ _ _ h => h) (Or.inl ⟨by rfl, ?_⟩) (by assumption) ?_
                          rotate_left
                          · (intro w hSw; (try dsimp only at hSw); go_simp; try (with_reducible rfl))
                          try simp only [Act.put, List.setIfInBounds_toArray, List.set_cons_zero, List.set_cons_succ]
                          refine wpAnyH_take (i := 12) (oi := ⟨_, _, _, _, _, _⟩) (v := ?_) rfl (by as_aux_lemma => kernel_rfl) (by as_aux_lemma => kernel_rfl) (by as_aux_lemma => kernel_rfl) (fun _ _ _ h => h) (Or.inl ⟨by rfl, ?_⟩) (by assumption) ?_
                          rotate_left
                          · (intro w hSw; (try dsimp only at hSw); go_simp; try (with_reducible rfl))
                          try simp only [Act.put, List.setIfInBounds_toArray, List.set_cons_zero, List.set_cons_succ]
                          refine wpAnyH_take (i := 13) (oi := ⟨_, _, _, _, _, _⟩) (v := ?_) rfl (by as_aux_lemma => kernel_rfl) (by as_aux_lemma => kernel_rfl) (by as_aux_lemma => kernel_rfl) (fun _ _ _ h => h) (Or.inl ⟨by rfl, ?_⟩) (by assumption) ?_
                          rotate_left
                          · (intro w hSw; (try dsimp only at hSw); go_simp; try (with_reducible rfl))
                          try simp only [Act.put, List.setIfInBounds_toArray, List.set_cons_zero, List.set_cons_succ]
                          refine wpAnyH_take (i := 14) (oi := ⟨_, _, _, _, _, _⟩) (v := ?_) rfl (by as_aux_lemma => kernel_rfl) (by as_aux_lemma => kernel_rfl) (by as_aux_lemma => kernel_rfl) (fun _ _ _ h => h) (Or.inl ⟨by rfl, ?_⟩) (by assumption) ?_
                          rotate_left
                          · (intro w hSw; (try dsimp only at hSw); go_simp; try (with_reducible rfl))
                          try simp only [Act.put, List.setIfInBounds_toArray, List.set_cons_zero, List.set_cons_succ]
                          refine wpAnyH_take (i := 15) (oi := ⟨_, _, _, _, _, _⟩) (v := ?_) rfl (by as_aux_lemma => kernel_rfl) (by as_aux_lemma => kernel_rfl) (by as_aux_lemma => kernel_rfl) (fun _ _ _ h => h) (Or.inl ⟨by rfl, ?_⟩) (by assumption) ?_
                          rotate_left
                          · (intro w hSw; (try dsimp only at hSw); go_simp; try (with_reducible rfl))
                          try simp only [Act.put, List.setIfInBounds_toArray, List.set_cons_zero, List.set_cons_succ]
                          refine wpAnyH_take (i := 16) (oi := ⟨_, _, _, _, _, _⟩) (v := ?_) rfl (by as_aux_lemma => kernel_rfl) (by as_aux_lemma => kernel_rfl) (by as_aux_lemma => kernel_rfl) (fun _ _ _ h => h) (Or.inl ⟨by rfl, ?_⟩) (by assumption) ?_
                          rotate_left
                          · (intro w hSw; (try dsimp only at hSw); go_simp; try (with_reducible rfl))
                          try simp only [Act.put, List.setIfInBounds_toArray, List.set_cons_zero, List.set_cons_succ]
                          refine wpAnyH_take (i := 17) (oi := ⟨_, _, _, _, _, _⟩) (v := ?_) rfl (by as_aux_lemma => kernel_rfl) (by as_aux_lemma => kernel_rfl) (by as_aux_lemma => kernel_rfl) (fun _ _ _ h => h) (Or.inl ⟨by rfl, ?_⟩) (by assumption) ?_
                          rotate_left
                          · (intro w hSw; (try dsimp only at hSw); go_simp; try (with_reducible rfl))
                          try simp only [Act.put, List.setIfInBounds_toArray, List.set_cons_zero, List.set_cons_succ]
                          refine wpAnyH_take (i := 18) (oi := ⟨_, _, _, _, _, _⟩) (v := ?_) rfl (by as_aux_lemma => kernel_rfl) (by as_aux_lemma => kernel_rfl) (by as_aux_lemma => kernel_rfl) (fun _ _ _ h => h) (Or.inl ⟨by rfl, ?_⟩) (by assumption) ?_
                          rotate_left
                          · (intro w hSw; (try dsimp only at hSw); go_simp; try (with_reducible rfl))
                          try simp only [Act.put, List.setIfInBounds_toArray, List.set_cons_zero, List.set_cons_succ]
                          refine wpAnyH_take (i := 19) (oi := ⟨_, _, _, _, _, _⟩) (v := ?_) rfl (by as_aux_lemma => kernel_rfl) (by as_aux_lemma => kernel_rfl) (by as_aux_lemma => kernel_rfl) (fun _ _ _ h => h) (Or.inl ⟨by rfl, ?_⟩) (by assumption) ?_
                          rotate_left
                          · (intro w hSw; (try dsimp only at hSw); go_simp; try (with_reducible rfl))
                          try simp only [Act.put, List.setIfInBounds_toArray, List.set_cons_zero, List.set_cons_succ]
                          refine wpAnyH_take (i := 20) (oi := ⟨_, _, _, _, _, _⟩) (v := ?_) rfl (by as_aux_lemma => kernel_rfl) (by as_aux_lemma => kernel_rfl) (by as_aux_lemma => kernel_rfl) (fun _ _ _ h => h) (Or.inl ⟨by rfl, ?_⟩) (by assumption) ?_
                          rotate_left
                          · (intro w hSw; (try dsimp only at hSw); go_simp; try (with_reducible rfl))
                          try simp only [Act.put, List.setIfInBounds_toArray, List.set_cons_zero, List.set_cons_succ]
                          refine wpAnyH_take (i := 21) (oi := ⟨_, _, _, _, _, _⟩) (v := ?_) rfl (by as_aux_lemma => kernel_rfl) (by as_aux_lemma => kernel_rfl) (by as_aux_lemma => kernel_rfl) (fun _ _ _ h => h) (Or.inl ⟨by rfl, ?_⟩) (by assumption) ?_
                          rotate_left
                          · (intro w hSw; (try dsimp only at hSw); go_simp; try (with_reducible rfl))
                          try simp only [Act.put, List.setIfInBounds_toArray, List.set_cons_zero, List.set_cons_succ]
                          refine wpAnyH_ready (rs := [22]) (by as_aux_lemma => kernel_rfl) (by simp) ?_
                          refine AllReadyH.cons (o := ⟨_, _, _, _, _, _⟩) rfl (fun K hK => ?_) AllReadyH.nil
                          go_simp
                          go_at_call 56; refine (markInts_any (p) (i) _ (by omega) (by omega) (by omega) (by omega)).mono ?_; rintro e w2 ⟨rfl, hb2⟩
                          refine hK.out _ _ ?_ (fun hHeld2 => ?_)
                          · exact ⟨cel_keep hb2 hHeld1.1, cel_keep hb2 hHeld1.2.1, cel_keep hb2 hHeld1.2.2.1, cel_keep hb2 hHeld1.2.2.2⟩
                          clear hK K
                          try simp only [Act.put, List.setIfInBounds_toArray, List.set_cons_zero, List.set_cons_succ]
                          refine wpAnyH_take (i := 23) (oi := ⟨_, _, _, _, _, _⟩) (v := ?_) rfl (by as_aux_lemma => kernel_rfl) (by as_aux_lemma => kernel_rfl) (by as_aux_lemma => kernel_rfl) (fun _ _ _ h => h) (Or.inl ⟨by rfl, ?_⟩) (by assumption) ?_
                          rotate_left
                          · (intro w hSw; (try dsimp only at hSw); go_simp; try (with_reducible rfl))
                          try simp only [Act.put, List.setIfInBounds_toArray, List.set_cons_zero, List.set_cons_succ]
                          refine wpAnyH_take (i := 24) (oi := ⟨_, _, _, _, _, _⟩) (v := ?_) rfl (by as_aux_lemma => kernel_rfl) (by as_aux_lemma => kernel_rfl) (by as_aux_lemma => kernel_rfl) (fun _ _ _ h => h) (Or.inl ⟨by rfl, ?_⟩) (by assumption) ?_
                          rotate_left
                          · (intro w hSw; (try dsimp only at hSw); go_simp; try (with_reducible rfl))
                          try simp only [Act.put, List.setIfInBounds_toArray, List.set_cons_zero, List.set_cons_succ]
                          refine wpAnyH_take (i := 25) (oi := ⟨_, _, _, _, _, _⟩) (v := ?_) rfl (by as_aux_lemma => kernel_rfl) (by as_aux_lemma => kernel_rfl) (by as_aux_lemma => kernel_rfl) (fun _ _ _ h => h) (Or.inl ⟨by rfl, ?_⟩) (by assumption) ?_
                          rotate_left
                          · (intro w hSw; (try dsimp only at hSw); go_simp; try (with_reducible rfl))
                          try simp only [Act.put, List.setIfInBounds_toArray, List.set_cons_zero, List.set_cons_succ]
                          refine wpAnyH_done (by as_aux_lemma => kernel_rfl) ?_ _
                          refine NoPanic.normal ?_
                          have hS : Below wr.heap.size wr w2 := bel_step (bel_drew hb1) hb2
                          have M5 := Kept.mk (M4.out.below HC.out hS)
                          have G5 := Kept.mk (G4.out.below hS)
                          clear hS hb1
                          go_wp2
                          go_roundw
                          case rel => exact ⟨i + 1, by omega, by go_num, M5.out, G5.out⟩
                          case measure => simp [intOf]; omega
                        · obtain rfl : i = c.ns p := by omega
                          go_wp2
                          go_roundw
                          case rel => exact ⟨p + 1, by omega, by go_num, M4.out, G4.out⟩
                          case measure => simp [intOf]; omega
                    · obtain rfl : k = p := by omega
                      have hend := Kept.mk (HCX.out ▸ M3.out.1.1)
                      go_wp2
                      go_ret
                      exact ⟨rfl, hend.out⟩
end Go.Proofs.YtkcpfjhdbbapiaaGreatDoor.Flt
namespace Go.Proofs.YtkcpfjhdbbapiaaGreatDoor.Flti
open Go Go.RowKit Go.Proofs.YtkcpfjhdbbapiaaGreatDoor.Kb Go.Proofs.YtkcpfjhdbbapiaaGreatDoor.Flt

/-- a bag that holds lists of ints alone -/
def bagC (v : Value) : Array Value := #[.slice none 0 0, v, .slice none 0 0, .slice none 0 0, .slice none 0 0, .slice none 0 0, .slice none 0 0, .slice none 0 0, .slice none 0 0, .slice none 0 0, .slice none 0 0, .slice none 0 0, .slice none 0 0, .slice none 0 0, .slice none 0 0, .slice none 0 0, .slice none 0 0, .slice none 0 0]
def IsBag (w : World) (D : Nat) (v : Value) : Prop := w.heap[D]? = some (.cells (bagC v) 80 (0, 0))
theorem IsBag.cell {w : World} {D : Nat} {v : Value} (h : IsBag w D v) (j : Nat) (u : Value) (hu : (bagC v)[j]? = some u) : w.cell? ⟨D, j, none⟩ = some u := by
  rw [cell_of_row w D j _ _ _ h]
  exact hu
theorem IsBag.lt {w : World} {D : Nat} {v : Value} (h : IsBag w D v) : D < w.heap.size := (Array.getElem?_eq_some_iff.1 h).1
theorem IsBag.below {w w1 : World} {D : Nat} {v : Value} (h : IsBag w D v) (hb : Below w.heap.size w w1) : IsBag w1 D v := (hb.block D h.lt).trans h
theorem IsBag.fro {w : World} {D : Nat} {v : Value} (h : IsBag w D v) (j : Nat) : w.frozen? ⟨D, j, none⟩ = false := Joins.unfrozen_of_block h _
theorem own_low {w : World} {base base' n k : Nat} {e : TypeId} {v : Value} {xs : List Value} (h : w.ownsRow base e k v n xs) (hb : base' ≤ base) : w.ownsRow base' e k v n xs :=
  ⟨h.1, h.2.imp id fun ⟨g, cap, cur, hv, hg, rest⟩ => ⟨g, cap, cur, hv, Nat.le_trans hb hg, rest⟩⟩
set_option maxRecDepth 100000 in
theorem putInts_any (B0 D : Nat) (A : Option Addr) (m c : Nat) (v : Value) (n : Nat) (xs : List Value) (w : World) (hD : IsBag w D v) (hown : w.ownsRow B0 27 1 v n xs) (hn : n ≤ 100) (hlow : B0 ≤ D) (hne : v.ownBlock ≠ some D) :
    Calls Tryz.prog 51 #[.pointer (some ⟨D, 0, none⟩), .slice A m c] w fun e w' => ∃ v', e = .returned (.tuple #[]) ∧ IsBag w' D v' ∧ w'.ownsRow B0 27 1 v' (n + 1) (xs ++ [.slice A m c]) ∧ v'.ownBlock ≠ some D ∧ Below B0 w w' := by
  obtain ⟨iS, hiS, hzS, hsS, hbS⟩ := info_parts infoSInts
  have c12 : w.cell? ⟨D, 1, none⟩ = some v := hD.cell 1 v rfl
  have f12 := hD.fro 1
  have hlt := hD.lt
  have HD := Kept.mk hD
  have HO := Kept.mk hown
  have HNE := Kept.mk hne
  clear hD hown hne
  go_enter Tryz.func51, Tryz.ntmps51
  go_wp2_with (at_builtin; refine wpList_append_own_at _ rfl (.tmp 8) (.tmp 10) 36 rfl B0 27 iS (.slice none 0 0) 1 24 Tryz.underlying36 hiS hzS hsS hbS rfl (by decide) v n xs (by rfl) (HO.out.alloc _) ⟨w.heap.size, 0, none⟩ 1 1 [.slice A m c] (by rfl) (by rfl) (World.news_of_block (heap_alloc_new _ _)) (by intro u hu; simp at hu; subst hu; rfl) (by unfold maxLen; omega) (by omega) (by simp; omega) ?_; intro v5 w5 hown5 hgrow5 _ hat5; obtain ⟨A5, c5, rfl, _⟩ := own_slice hown5; have hb5 := hgrow5.block D (by simp; omega) (fun e => HNE.out e.symm); have hD5 : IsBag w5 D v := hb5.trans ((HD.out.below ((Below.refl _ _).alloc (Nat.le_refl _) _))); have hlt5 := hD5.lt; have d12 : w5.cell? ⟨D, 1, none⟩ = some v := hD5.cell 1 v rfl; have g12 := hD5.fro 1; have HD5 := Kept.mk hD5; have HO5 := Kept.mk hown5; have HG5 := Kept.mk hgrow5; have HA5 := Kept.mk hat5; clear hD5 hown5 hgrow5 hat5 hb5 c12 f12)
  go_end0
  have hne5 : (Value.slice A5 (n + 1) c5).ownBlock ≠ some D := fun e => by
    rcases HA5.out with h | h
    · exact HNE.out (h.symm.trans e)
    · rw [e] at h
      injection h with h
      simp at h
      omega
  refine ⟨_, rfl, ?_, own_other HO5.out hne5, hne5, ?_⟩
  · exact Joins.block_setCell HD5.out _
  · exact (Below.grown ((Below.refl _ _).alloc (Nat.le_trans hlow (Nat.le_of_lt hlt)) _) HG5.out (by simp; omega) (fun b hb => (HO.out.lt b hb).1)).setCell hlow _
set_option maxRecDepth 100000 in
set_option maxHeartbeats 2000000 in
theorem apartInts_any (B0 D K B C : Nat) (vs : List Value) (ns : Nat → Nat) (xs0 : Nat → List Value) (w : World) (hK : K ≤ 100) (hn : ∀ k, ns k ≤ 100000) (hD : IsBag w D (.slice (some ⟨B, 0, none⟩) K C)) (hB0 : B0 ≤ w.heap.size)
    (hown : w.ownsRow B0 27 1 (.slice (some ⟨B, 0, none⟩) K C) K vs) (hrow : ∀ (j : Nat) (v : Value), vs[j]? = some v → w.ownsRow B0 3 1 v (ns j) (xs0 j) ∧ v.ownBlock ≠ some D)
    (hfar : ∀ (j k : Nat) (u v : Value), j ≠ k → vs[j]? = some u → vs[k]? = some v → Far u v) :
    Calls Tryz.prog 48 #[.pointer (some ⟨D, 0, none⟩)] w fun e w' => e = .returned (.bool true) ∧ Below B0 w w' := by
  have H0 : Kept (IsBag w D (.slice (some ⟨B, 0, none⟩) K C)) := ⟨hD⟩
  have HO := Kept.mk hown
  have HR := Kept.mk hrow
  have HF := Kept.mk hfar
  have L0 : Kept (Below w.heap.size w w) := ⟨Below.refl _ _⟩
  clear hD hown hrow hfar
  go_enter Tryz.func48, Tryz.ntmps48
  have q0 : w.cell? ⟨D, 0, none⟩ = some (.slice none 0 0) := H0.out.cell 0 _ rfl
  go_wp2_with (fail)
  refine (nilWords _).mono ?_; rintro e w1 ⟨rfl, hb⟩
  have H1 := Kept.mk (H0.out.below hb)
  have L1 := Kept.mk (bel_step L0.out hb)
  clear hb q0
  have q1 : w1.cell? ⟨D, 1, none⟩ = some (.slice (some ⟨B, 0, none⟩) K C) := H1.out.cell 1 _ rfl
  go_wp2_with (fail)
  have hcx : (cxInts B0 K (.slice (some ⟨B, 0, none⟩) K C) vs ns w1).Ok := ⟨lenInts, (by show 0 < 1; decide), cxInts_ne, Nat.le_trans hB0 L1.out.size, HF.out⟩
  have hbs : Bas (cxInts B0 K (.slice (some ⟨B, 0, none⟩) K C) vs ns w1) w1 := ⟨Kpt.refl _, own_below HO.out L1.out⟩
  have hfm : Fam (cxInts B0 K (.slice (some ⟨B, 0, none⟩) K C) vs ns w1) xs0 w1 := fun j v hv => own_below (HR.out j v hv).1 L1.out
  refine (flatInts_any B0 K B C vs ns xs0 w1 hK hn hcx hbs hfm).mono ?_; rintro e w2 ⟨rfl, hk⟩
  have hDk : ¬ May (cxInts B0 K (.slice (some ⟨B, 0, none⟩) K C) vs ns w1) D := fun hm => by
    rcases hm with hm | ⟨j, v, hv, hvb⟩
    · have := H1.out.lt
      exact absurd hm (by show ¬ w1.heap.size ≤ D; omega)
    · exact (HR.out j v hv).2 hvb
  have H2 : Kept (IsBag w2 D (.slice (some ⟨B, 0, none⟩) K C)) := ⟨(hk.kp D H1.out.lt hDk).trans H1.out⟩
  have hb := hk.toB
  have L2 : Kept (Below B0 w w2) := ⟨(L1.out.mono hB0).trans hb⟩
  clear hcx hbs hfm hk hDk
  clear hb q1
  have q2 : w2.cell? ⟨D, 2, none⟩ = some (.slice none 0 0) := H2.out.cell 2 _ rfl
  go_wp2_with (fail)
  refine (nilLongs _).mono ?_; rintro e w3 ⟨rfl, hb⟩
  have H3 := Kept.mk (H2.out.below hb)
  have L3 : Kept (Below B0 w w3) := ⟨L2.out.trans (hb.mono (Nat.le_trans hB0 L2.out.size))⟩
  clear hb q2
  have q3 : w3.cell? ⟨D, 3, none⟩ = some (.slice none 0 0) := H3.out.cell 3 _ rfl
  go_wp2_with (fail)
  refine (nilTexts _).mono ?_; rintro e w4 ⟨rfl, hb⟩
  have H4 := Kept.mk (H3.out.below hb)
  have L4 : Kept (Below B0 w w4) := ⟨L3.out.trans (hb.mono (Nat.le_trans hB0 L3.out.size))⟩
  clear hb q3
  have q4 : w4.cell? ⟨D, 4, none⟩ = some (.slice none 0 0) := H4.out.cell 4 _ rfl
  go_wp2_with (fail)
  refine (nilBytes _).mono ?_; rintro e w5 ⟨rfl, hb⟩
  have H5 := Kept.mk (H4.out.below hb)
  have L5 : Kept (Below B0 w w5) := ⟨L4.out.trans (hb.mono (Nat.le_trans hB0 L4.out.size))⟩
  clear hb q4
  have q5 : w5.cell? ⟨D, 5, none⟩ = some (.slice none 0 0) := H5.out.cell 5 _ rfl
  go_wp2_with (fail)
  refine (nilNodes _).mono ?_; rintro e w6 ⟨rfl, hb⟩
  have H6 := Kept.mk (H5.out.below hb)
  have L6 : Kept (Below B0 w w6) := ⟨L5.out.trans (hb.mono (Nat.le_trans hB0 L5.out.size))⟩
  clear hb q5
  have q6 : w6.cell? ⟨D, 6, none⟩ = some (.slice none 0 0) := H6.out.cell 6 _ rfl
  go_wp2_with (fail)
  refine (nilFates _).mono ?_; rintro e w7 ⟨rfl, hb⟩
  have H7 := Kept.mk (H6.out.below hb)
  have L7 : Kept (Below B0 w w7) := ⟨L6.out.trans (hb.mono (Nat.le_trans hB0 L6.out.size))⟩
  clear hb q6
  have q7 : w7.cell? ⟨D, 7, none⟩ = some (.slice none 0 0) := H7.out.cell 7 _ rfl
  go_wp2_with (fail)
  refine (nilSpans _).mono ?_; rintro e w8 ⟨rfl, hb⟩
  have H8 := Kept.mk (H7.out.below hb)
  have L8 : Kept (Below B0 w w8) := ⟨L7.out.trans (hb.mono (Nat.le_trans hB0 L7.out.size))⟩
  clear hb q7
  have q8 : w8.cell? ⟨D, 8, none⟩ = some (.slice none 0 0) := H8.out.cell 8 _ rfl
  go_wp2_with (fail)
  refine (nilDirties _).mono ?_; rintro e w9 ⟨rfl, hb⟩
  have H9 := Kept.mk (H8.out.below hb)
  have L9 : Kept (Below B0 w w9) := ⟨L8.out.trans (hb.mono (Nat.le_trans hB0 L8.out.size))⟩
  clear hb q8
  have q9 : w9.cell? ⟨D, 9, none⟩ = some (.slice none 0 0) := H9.out.cell 9 _ rfl
  go_wp2_with (fail)
  refine (nilRecords _).mono ?_; rintro e w10 ⟨rfl, hb⟩
  have H10 := Kept.mk (H9.out.below hb)
  have L10 : Kept (Below B0 w w10) := ⟨L9.out.trans (hb.mono (Nat.le_trans hB0 L9.out.size))⟩
  clear hb q9
  have q10 : w10.cell? ⟨D, 10, none⟩ = some (.slice none 0 0) := H10.out.cell 10 _ rfl
  go_wp2_with (fail)
  refine (nilCells _).mono ?_; rintro e w11 ⟨rfl, hb⟩
  have H11 := Kept.mk (H10.out.below hb)
  have L11 : Kept (Below B0 w w11) := ⟨L10.out.trans (hb.mono (Nat.le_trans hB0 L10.out.size))⟩
  clear hb q10
  have q11 : w11.cell? ⟨D, 11, none⟩ = some (.slice none 0 0) := H11.out.cell 11 _ rfl
  go_wp2_with (fail)
  refine (nilHelds _).mono ?_; rintro e w12 ⟨rfl, hb⟩
  have H12 := Kept.mk (H11.out.below hb)
  have L12 : Kept (Below B0 w w12) := ⟨L11.out.trans (hb.mono (Nat.le_trans hB0 L11.out.size))⟩
  clear hb q11
  have q12 : w12.cell? ⟨D, 12, none⟩ = some (.slice none 0 0) := H12.out.cell 12 _ rfl
  go_wp2_with (fail)
  refine (nilTokens _).mono ?_; rintro e w13 ⟨rfl, hb⟩
  have H13 := Kept.mk (H12.out.below hb)
  have L13 : Kept (Below B0 w w13) := ⟨L12.out.trans (hb.mono (Nat.le_trans hB0 L12.out.size))⟩
  clear hb q12
  have q13 : w13.cell? ⟨D, 13, none⟩ = some (.slice none 0 0) := H13.out.cell 13 _ rfl
  go_wp2_with (fail)
  refine (nilExprs _).mono ?_; rintro e w14 ⟨rfl, hb⟩
  have H14 := Kept.mk (H13.out.below hb)
  have L14 : Kept (Below B0 w w14) := ⟨L13.out.trans (hb.mono (Nat.le_trans hB0 L13.out.size))⟩
  clear hb q13
  have q14 : w14.cell? ⟨D, 14, none⟩ = some (.slice none 0 0) := H14.out.cell 14 _ rfl
  go_wp2_with (fail)
  refine (nilItems _).mono ?_; rintro e w15 ⟨rfl, hb⟩
  have H15 := Kept.mk (H14.out.below hb)
  have L15 : Kept (Below B0 w w15) := ⟨L14.out.trans (hb.mono (Nat.le_trans hB0 L14.out.size))⟩
  clear hb q14
  have q15 : w15.cell? ⟨D, 15, none⟩ = some (.slice none 0 0) := H15.out.cell 15 _ rfl
  go_wp2_with (fail)
  refine (nilShowns _).mono ?_; rintro e w16 ⟨rfl, hb⟩
  have H16 := Kept.mk (H15.out.below hb)
  have L16 : Kept (Below B0 w w16) := ⟨L15.out.trans (hb.mono (Nat.le_trans hB0 L15.out.size))⟩
  clear hb q15
  have q16 : w16.cell? ⟨D, 16, none⟩ = some (.slice none 0 0) := H16.out.cell 16 _ rfl
  go_wp2_with (fail)
  refine (nilParts _).mono ?_; rintro e w17 ⟨rfl, hb⟩
  have H17 := Kept.mk (H16.out.below hb)
  have L17 : Kept (Below B0 w w17) := ⟨L16.out.trans (hb.mono (Nat.le_trans hB0 L16.out.size))⟩
  clear hb q16
  have q17 : w17.cell? ⟨D, 17, none⟩ = some (.slice none 0 0) := H17.out.cell 17 _ rfl
  go_wp2_with (fail)
  refine (nilCommands _).mono ?_; rintro e w18 ⟨rfl, hb⟩
  have H18 := Kept.mk (H17.out.below hb)
  have L18 : Kept (Below B0 w w18) := ⟨L17.out.trans (hb.mono (Nat.le_trans hB0 L17.out.size))⟩
  clear hb q17
  go_wp2_with (fail)
  go_ret
  exact ⟨rfl, L18.out⟩
theorem below_box {B0 : Nat} {w w1 : World} {o : Obj} (hB0 : B0 ≤ w.heap.size) (h : Below B0 (w.alloc o) w1) : Below B0 w w1 := ((Below.refl _ _).alloc hB0 _).trans h
set_option maxRecDepth 100000 in
set_option maxHeartbeats 2000000 in
theorem apartIntsList_any (B0 K b C : Nat) (vs : List Value) (ns : Nat → Nat) (xs0 : Nat → List Value) (w : World) (hK : K ≤ 100) (hK0 : 0 < K) (hl : vs.length = K) (hn : ∀ k, ns k ≤ 100000) (hB0 : B0 ≤ w.heap.size)
    (hb : ∀ (j : Nat) (v : Value), vs[j]? = some v → w.cell? ⟨b, j, none⟩ = some v) (hrow : ∀ (j : Nat) (v : Value), vs[j]? = some v → w.ownsRow B0 3 1 v (ns j) (xs0 j))
    (hfar : ∀ (j k : Nat) (u v : Value), j ≠ k → vs[j]? = some u → vs[k]? = some v → Far u v) :
    Calls Tryz.prog 16 #[.slice (some ⟨b, 0, none⟩) K C] w fun e w' => e = .returned (.bool true) ∧ Below B0 w w' := by
  have HB := Kept.mk hb
  have HR := Kept.mk hrow
  have HF := Kept.mk hfar
  have HL := Kept.mk hl
  clear hb hrow hfar hl
  go_enter Tryz.func16, Tryz.ntmps16
  go_wp2
  go_loopw [4] (fun i wx => ∃ (k : Nat) (v : Value), k ≤ K ∧ i = .int .i64 k ∧ IsBag wx w.heap.size v ∧ wx.ownsRow w.heap.size 27 1 v k (vs.take k) ∧ v.ownBlock ≠ some w.heap.size ∧ Below w.heap.size w wx) (fun i _ => K - (intOf i).toNat)
  case atStart => exact ⟨0, .slice none 0 0, by omega, rfl, heap_alloc_new _ _, World.ownsRow_nil _ _ _ _, by simp [Value.ownBlock], (Below.refl _ _).alloc (Nat.le_refl _) _⟩
  case round =>
    obtain ⟨k, v, hk, rfl, hD, hO, hne, hw⟩ := hrel
    have HW := Kept.mk hw
    by_cases hlt : k < K
    · obtain ⟨u, hu⟩ : ∃ u, vs[k]? = some u := ⟨_, List.getElem?_eq_getElem (by rw [HL.out]; exact hlt)⟩
      obtain ⟨A, c, rfl, _⟩ := own_slice (HR.out k u hu)
      have q0 : wr.cell? ⟨b, k, none⟩ = some (.slice A (ns k) c) := cel_keep hw (HB.out k _ hu)
      have HP := Kept.mk (putInts_any w.heap.size w.heap.size A (ns k) c v k (vs.take k) wr hD hO (by omega) (Nat.le_refl _) hne)
      have ht : Kept (vs.take k ++ [.slice A (ns k) c] = vs.take (k + 1)) := ⟨by rw [List.take_add_one, hu]; rfl⟩
      have i0 : (0 : Int) ≤ (k : Int) := by omega
      have i1 : (k : Int) < (K : Int) := by omega
      clear hD hO hne hw hu
      go_wp2_with (fail)
      refine HP.out.mono ?_; rintro e w1 ⟨v', rfl, h1, h2, h3, h4⟩
      have G1 := Kept.mk h1
      have G2 := Kept.mk h2
      have G3 := Kept.mk h3
      have G4 := Kept.mk h4
      clear h1 h2 h3 h4
      go_wp2_with (fail)
      go_roundw
      case rel => exact ⟨k + 1, v', by omega, by go_num, G1.out, by rw [← ht.out]; exact G2.out, G3.out, HW.out.trans G4.out⟩
      case measure => simp [intOf]; omega
    · obtain rfl : k = K := by omega
      rw [List.take_of_length_le (by rw [HL.out]; exact Nat.le_refl _)] at hO
      obtain ⟨B, C', rfl, _⟩ := own_block hO hK0
      have HP := Kept.mk (apartInts_any B0 w.heap.size k B C' vs ns xs0 wr hK hn hD (Nat.le_trans hB0 hw.size) (own_low hO hB0) (fun j v hv => ⟨own_below (HR.out j v hv) hw, fun e => by have := own_lt (HR.out j v hv) _ e; omega⟩) HF.out)
      clear hD hO hne hw
      go_wp2_with (fail)
      refine HP.out.mono ?_; rintro e w1 ⟨rfl, h1⟩
      have G1 := Kept.mk h1
      clear h1
      go_wp2_with (fail)
      go_ret
      exact ⟨rfl, (HW.out.mono hB0).trans G1.out⟩
end Go.Proofs.YtkcpfjhdbbapiaaGreatDoor.Flti
