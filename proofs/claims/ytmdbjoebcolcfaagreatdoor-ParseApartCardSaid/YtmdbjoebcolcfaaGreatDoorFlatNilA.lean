/- The walks over the kit's flat.. at no list at all. -/
import Derived.Test.YtmdbjoebcolcfaaGreatDoorFlatKit
import Derived.Test.YtmdbjoebcolcfaaGreatDoorKitBytes
import Derived.OwnWalk
namespace Go.Proofs.YtmdbjoebcolcfaaGreatDoor.Flt
open Go Go.RowKit Go.Proofs.YtmdbjoebcolcfaaGreatDoor.Kb

theorem infoNWords : (Tryz.prog.info? 130).map (fun i => (i.zero, i.size, i.bytes)) = some (some (.slice none 0 0), 1, 24) := by kernel_rfl
set_option maxRecDepth 100000 in
theorem nilWords (w : World) : Calls Tryz.prog 63 #[.slice none 0 0] w fun e w' => e = .returned (.bool true) ∧ Below w.heap.size w w' := by
  obtain ⟨iS, hiS, hzS, hsS, hbS⟩ := info_parts infoNWords
  go_enter Tryz.func63, Tryz.ntmps63
  go_wp2
  go_loop [3] (fun k => k = .int .i64 0) (fun _ => 0)
  case atStart => exact rfl
  case round =>
    cases hrel
    go_wp2_with (at_make; refine wpList_make_full _ rfl _ _ 55 rfl w.heap.size 130 iS (.slice none 0 0) 1 Tryz.underlying55 hiS hzS hsS .i64 .i64 _ _ 0 (by rfl) (by rfl) rfl rfl (by rw [hbS]; omega) (by decide) (Nat.le_refl _) ?_; intro w2 hown2 hgrow2; have hb2 := Kept.mk (below_of_grown hgrow2); clear hown2 hgrow2)
    go_loop [6] (fun k => k = .int .i64 0) (fun _ => 0)
    case atStart => exact rfl
    case round =>
      cases hrel
      go_wp2
      go_loop [9] (fun k => k = .int .i64 0) (fun _ => 0)
      case atStart => exact rfl
      case round =>
        cases hrel
        go_wp2
        go_loop [11] (fun k => k = .int .i64 0) (fun _ => 0)
        case atStart => exact rfl
        case round =>
          cases hrel
          go_wp2
          go_loop [14] (fun k => k = .int .i64 0) (fun _ => 0)
          case atStart => exact rfl
          case round =>
            cases hrel
            go_wp2
            go_ret
            exact ⟨rfl, hb2.out⟩
theorem infoNInts : (Tryz.prog.info? 75).map (fun i => (i.zero, i.size, i.bytes)) = some (some (.slice none 0 0), 1, 24) := by kernel_rfl
set_option maxRecDepth 100000 in
theorem nilInts (w : World) : Calls Tryz.prog 64 #[.slice none 0 0] w fun e w' => e = .returned (.bool true) ∧ Below w.heap.size w w' := by
  obtain ⟨iS, hiS, hzS, hsS, hbS⟩ := info_parts infoNInts
  go_enter Tryz.func64, Tryz.ntmps64
  go_wp2
  go_loop [3] (fun k => k = .int .i64 0) (fun _ => 0)
  case atStart => exact rfl
  case round =>
    cases hrel
    go_wp2_with (at_make; refine wpList_make_full _ rfl _ _ 56 rfl w.heap.size 75 iS (.slice none 0 0) 1 Tryz.underlying56 hiS hzS hsS .i64 .i64 _ _ 0 (by rfl) (by rfl) rfl rfl (by rw [hbS]; omega) (by decide) (Nat.le_refl _) ?_; intro w2 hown2 hgrow2; have hb2 := Kept.mk (below_of_grown hgrow2); clear hown2 hgrow2)
    go_loop [6] (fun k => k = .int .i64 0) (fun _ => 0)
    case atStart => exact rfl
    case round =>
      cases hrel
      go_wp2
      go_loop [9] (fun k => k = .int .i64 0) (fun _ => 0)
      case atStart => exact rfl
      case round =>
        cases hrel
        go_wp2
        go_loop [11] (fun k => k = .int .i64 0) (fun _ => 0)
        case atStart => exact rfl
        case round =>
          cases hrel
          go_wp2
          go_loop [14] (fun k => k = .int .i64 0) (fun _ => 0)
          case atStart => exact rfl
          case round =>
            cases hrel
            go_wp2
            go_ret
            exact ⟨rfl, hb2.out⟩
theorem infoNLongs : (Tryz.prog.info? 132).map (fun i => (i.zero, i.size, i.bytes)) = some (some (.slice none 0 0), 1, 24) := by kernel_rfl
set_option maxRecDepth 100000 in
theorem nilLongs (w : World) : Calls Tryz.prog 65 #[.slice none 0 0] w fun e w' => e = .returned (.bool true) ∧ Below w.heap.size w w' := by
  obtain ⟨iS, hiS, hzS, hsS, hbS⟩ := info_parts infoNLongs
  go_enter Tryz.func65, Tryz.ntmps65
  go_wp2
  go_loop [3] (fun k => k = .int .i64 0) (fun _ => 0)
  case atStart => exact rfl
  case round =>
    cases hrel
    go_wp2_with (at_make; refine wpList_make_full _ rfl _ _ 57 rfl w.heap.size 132 iS (.slice none 0 0) 1 Tryz.underlying57 hiS hzS hsS .i64 .i64 _ _ 0 (by rfl) (by rfl) rfl rfl (by rw [hbS]; omega) (by decide) (Nat.le_refl _) ?_; intro w2 hown2 hgrow2; have hb2 := Kept.mk (below_of_grown hgrow2); clear hown2 hgrow2)
    go_loop [6] (fun k => k = .int .i64 0) (fun _ => 0)
    case atStart => exact rfl
    case round =>
      cases hrel
      go_wp2
      go_loop [9] (fun k => k = .int .i64 0) (fun _ => 0)
      case atStart => exact rfl
      case round =>
        cases hrel
        go_wp2
        go_loop [11] (fun k => k = .int .i64 0) (fun _ => 0)
        case atStart => exact rfl
        case round =>
          cases hrel
          go_wp2
          go_loop [14] (fun k => k = .int .i64 0) (fun _ => 0)
          case atStart => exact rfl
          case round =>
            cases hrel
            go_wp2
            go_ret
            exact ⟨rfl, hb2.out⟩
theorem infoNTexts : (Tryz.prog.info? 74).map (fun i => (i.zero, i.size, i.bytes)) = some (some (.slice none 0 0), 1, 24) := by kernel_rfl
set_option maxRecDepth 100000 in
theorem nilTexts (w : World) : Calls Tryz.prog 66 #[.slice none 0 0] w fun e w' => e = .returned (.bool true) ∧ Below w.heap.size w w' := by
  obtain ⟨iS, hiS, hzS, hsS, hbS⟩ := info_parts infoNTexts
  go_enter Tryz.func66, Tryz.ntmps66
  go_wp2
  go_loop [3] (fun k => k = .int .i64 0) (fun _ => 0)
  case atStart => exact rfl
  case round =>
    cases hrel
    go_wp2_with (at_make; refine wpList_make_full _ rfl _ _ 58 rfl w.heap.size 74 iS (.slice none 0 0) 1 Tryz.underlying58 hiS hzS hsS .i64 .i64 _ _ 0 (by rfl) (by rfl) rfl rfl (by rw [hbS]; omega) (by decide) (Nat.le_refl _) ?_; intro w2 hown2 hgrow2; have hb2 := Kept.mk (below_of_grown hgrow2); clear hown2 hgrow2)
    go_loop [6] (fun k => k = .int .i64 0) (fun _ => 0)
    case atStart => exact rfl
    case round =>
      cases hrel
      go_wp2
      go_loop [9] (fun k => k = .int .i64 0) (fun _ => 0)
      case atStart => exact rfl
      case round =>
        cases hrel
        go_wp2
        go_loop [11] (fun k => k = .int .i64 0) (fun _ => 0)
        case atStart => exact rfl
        case round =>
          cases hrel
          go_wp2
          go_loop [14] (fun k => k = .int .i64 0) (fun _ => 0)
          case atStart => exact rfl
          case round =>
            cases hrel
            go_wp2
            go_ret
            exact ⟨rfl, hb2.out⟩
theorem infoNBytes : (Tryz.prog.info? 43).map (fun i => (i.zero, i.size, i.bytes)) = some (some (.slice none 0 0), 1, 24) := by kernel_rfl
set_option maxRecDepth 100000 in
theorem nilBytes (w : World) : Calls Tryz.prog 67 #[.slice none 0 0] w fun e w' => e = .returned (.bool true) ∧ Below w.heap.size w w' := by
  obtain ⟨iS, hiS, hzS, hsS, hbS⟩ := info_parts infoNBytes
  go_enter Tryz.func67, Tryz.ntmps67
  go_wp2
  go_loop [3] (fun k => k = .int .i64 0) (fun _ => 0)
  case atStart => exact rfl
  case round =>
    cases hrel
    go_wp2_with (at_make; refine wpList_make_full _ rfl _ _ 59 rfl w.heap.size 43 iS (.slice none 0 0) 1 Tryz.underlying59 hiS hzS hsS .i64 .i64 _ _ 0 (by rfl) (by rfl) rfl rfl (by rw [hbS]; omega) (by decide) (Nat.le_refl _) ?_; intro w2 hown2 hgrow2; have hb2 := Kept.mk (below_of_grown hgrow2); clear hown2 hgrow2)
    go_loop [6] (fun k => k = .int .i64 0) (fun _ => 0)
    case atStart => exact rfl
    case round =>
      cases hrel
      go_wp2
      go_loop [9] (fun k => k = .int .i64 0) (fun _ => 0)
      case atStart => exact rfl
      case round =>
        cases hrel
        go_wp2
        go_loop [11] (fun k => k = .int .i64 0) (fun _ => 0)
        case atStart => exact rfl
        case round =>
          cases hrel
          go_wp2
          go_loop [14] (fun k => k = .int .i64 0) (fun _ => 0)
          case atStart => exact rfl
          case round =>
            cases hrel
            go_wp2
            go_ret
            exact ⟨rfl, hb2.out⟩
theorem infoNNodes : (Tryz.prog.info? 23).map (fun i => (i.zero, i.size, i.bytes)) = some (some (.slice none 0 0), 1, 24) := by kernel_rfl
set_option maxRecDepth 100000 in
theorem nilNodes (w : World) : Calls Tryz.prog 68 #[.slice none 0 0] w fun e w' => e = .returned (.bool true) ∧ Below w.heap.size w w' := by
  obtain ⟨iS, hiS, hzS, hsS, hbS⟩ := info_parts infoNNodes
  go_enter Tryz.func68, Tryz.ntmps68
  go_wp2
  go_loop [3] (fun k => k = .int .i64 0) (fun _ => 0)
  case atStart => exact rfl
  case round =>
    cases hrel
    go_wp2_with (at_make; refine wpList_make_full _ rfl _ _ 34 rfl w.heap.size 23 iS (.slice none 0 0) 1 Tryz.underlying34 hiS hzS hsS .i64 .i64 _ _ 0 (by rfl) (by rfl) rfl rfl (by rw [hbS]; omega) (by decide) (Nat.le_refl _) ?_; intro w2 hown2 hgrow2; have hb2 := Kept.mk (below_of_grown hgrow2); clear hown2 hgrow2)
    go_loop [6] (fun k => k = .int .i64 0) (fun _ => 0)
    case atStart => exact rfl
    case round =>
      cases hrel
      go_wp2
      go_loop [9] (fun k => k = .int .i64 0) (fun _ => 0)
      case atStart => exact rfl
      case round =>
        cases hrel
        go_wp2
        go_loop [11] (fun k => k = .int .i64 0) (fun _ => 0)
        case atStart => exact rfl
        case round =>
          cases hrel
          go_wp2
          go_loop [14] (fun k => k = .int .i64 0) (fun _ => 0)
          case atStart => exact rfl
          case round =>
            cases hrel
            go_wp2
            go_ret
            exact ⟨rfl, hb2.out⟩
theorem infoNFates : (Tryz.prog.info? 136).map (fun i => (i.zero, i.size, i.bytes)) = some (some (.slice none 0 0), 1, 24) := by kernel_rfl
set_option maxRecDepth 100000 in
theorem nilFates (w : World) : Calls Tryz.prog 69 #[.slice none 0 0] w fun e w' => e = .returned (.bool true) ∧ Below w.heap.size w w' := by
  obtain ⟨iS, hiS, hzS, hsS, hbS⟩ := info_parts infoNFates
  go_enter Tryz.func69, Tryz.ntmps69
  go_wp2
  go_loop [3] (fun k => k = .int .i64 0) (fun _ => 0)
  case atStart => exact rfl
  case round =>
    cases hrel
    go_wp2_with (at_make; refine wpList_make_full _ rfl _ _ 60 rfl w.heap.size 136 iS (.slice none 0 0) 1 Tryz.underlying60 hiS hzS hsS .i64 .i64 _ _ 0 (by rfl) (by rfl) rfl rfl (by rw [hbS]; omega) (by decide) (Nat.le_refl _) ?_; intro w2 hown2 hgrow2; have hb2 := Kept.mk (below_of_grown hgrow2); clear hown2 hgrow2)
    go_loop [6] (fun k => k = .int .i64 0) (fun _ => 0)
    case atStart => exact rfl
    case round =>
      cases hrel
      go_wp2
      go_loop [9] (fun k => k = .int .i64 0) (fun _ => 0)
      case atStart => exact rfl
      case round =>
        cases hrel
        go_wp2
        go_loop [11] (fun k => k = .int .i64 0) (fun _ => 0)
        case atStart => exact rfl
        case round =>
          cases hrel
          go_wp2
          go_loop [14] (fun k => k = .int .i64 0) (fun _ => 0)
          case atStart => exact rfl
          case round =>
            cases hrel
            go_wp2
            go_ret
            exact ⟨rfl, hb2.out⟩
theorem infoNSpans : (Tryz.prog.info? 140).map (fun i => (i.zero, i.size, i.bytes)) = some (some (.slice none 0 0), 1, 24) := by kernel_rfl
set_option maxRecDepth 100000 in
theorem nilSpans (w : World) : Calls Tryz.prog 70 #[.slice none 0 0] w fun e w' => e = .returned (.bool true) ∧ Below w.heap.size w w' := by
  obtain ⟨iS, hiS, hzS, hsS, hbS⟩ := info_parts infoNSpans
  go_enter Tryz.func70, Tryz.ntmps70
  go_wp2
  go_loop [3] (fun k => k = .int .i64 0) (fun _ => 0)
  case atStart => exact rfl
  case round =>
    cases hrel
    go_wp2_with (at_make; refine wpList_make_full _ rfl _ _ 61 rfl w.heap.size 140 iS (.slice none 0 0) 1 Tryz.underlying61 hiS hzS hsS .i64 .i64 _ _ 0 (by rfl) (by rfl) rfl rfl (by rw [hbS]; omega) (by decide) (Nat.le_refl _) ?_; intro w2 hown2 hgrow2; have hb2 := Kept.mk (below_of_grown hgrow2); clear hown2 hgrow2)
    go_loop [6] (fun k => k = .int .i64 0) (fun _ => 0)
    case atStart => exact rfl
    case round =>
      cases hrel
      go_wp2
      go_loop [9] (fun k => k = .int .i64 0) (fun _ => 0)
      case atStart => exact rfl
      case round =>
        cases hrel
        go_wp2
        go_loop [11] (fun k => k = .int .i64 0) (fun _ => 0)
        case atStart => exact rfl
        case round =>
          cases hrel
          go_wp2
          go_loop [14] (fun k => k = .int .i64 0) (fun _ => 0)
          case atStart => exact rfl
          case round =>
            cases hrel
            go_wp2
            go_ret
            exact ⟨rfl, hb2.out⟩
theorem infoNDirties : (Tryz.prog.info? 145).map (fun i => (i.zero, i.size, i.bytes)) = some (some (.slice none 0 0), 1, 24) := by kernel_rfl
set_option maxRecDepth 100000 in
theorem nilDirties (w : World) : Calls Tryz.prog 71 #[.slice none 0 0] w fun e w' => e = .returned (.bool true) ∧ Below w.heap.size w w' := by
  obtain ⟨iS, hiS, hzS, hsS, hbS⟩ := info_parts infoNDirties
  go_enter Tryz.func71, Tryz.ntmps71
  go_wp2
  go_loop [3] (fun k => k = .int .i64 0) (fun _ => 0)
  case atStart => exact rfl
  case round =>
    cases hrel
    go_wp2_with (at_make; refine wpList_make_full _ rfl _ _ 62 rfl w.heap.size 145 iS (.slice none 0 0) 1 Tryz.underlying62 hiS hzS hsS .i64 .i64 _ _ 0 (by rfl) (by rfl) rfl rfl (by rw [hbS]; omega) (by decide) (Nat.le_refl _) ?_; intro w2 hown2 hgrow2; have hb2 := Kept.mk (below_of_grown hgrow2); clear hown2 hgrow2)
    go_loop [6] (fun k => k = .int .i64 0) (fun _ => 0)
    case atStart => exact rfl
    case round =>
      cases hrel
      go_wp2
      go_loop [9] (fun k => k = .int .i64 0) (fun _ => 0)
      case atStart => exact rfl
      case round =>
        cases hrel
        go_wp2
        go_loop [11] (fun k => k = .int .i64 0) (fun _ => 0)
        case atStart => exact rfl
        case round =>
          cases hrel
          go_wp2
          go_loop [14] (fun k => k = .int .i64 0) (fun _ => 0)
          case atStart => exact rfl
          case round =>
            cases hrel
            go_wp2
            go_ret
            exact ⟨rfl, hb2.out⟩
theorem infoNRecords : (Tryz.prog.info? 149).map (fun i => (i.zero, i.size, i.bytes)) = some (some (.slice none 0 0), 1, 24) := by kernel_rfl
set_option maxRecDepth 100000 in
theorem nilRecords (w : World) : Calls Tryz.prog 72 #[.slice none 0 0] w fun e w' => e = .returned (.bool true) ∧ Below w.heap.size w w' := by
  obtain ⟨iS, hiS, hzS, hsS, hbS⟩ := info_parts infoNRecords
  go_enter Tryz.func72, Tryz.ntmps72
  go_wp2
  go_loop [3] (fun k => k = .int .i64 0) (fun _ => 0)
  case atStart => exact rfl
  case round =>
    cases hrel
    go_wp2_with (at_make; refine wpList_make_full _ rfl _ _ 63 rfl w.heap.size 149 iS (.slice none 0 0) 1 Tryz.underlying63 hiS hzS hsS .i64 .i64 _ _ 0 (by rfl) (by rfl) rfl rfl (by rw [hbS]; omega) (by decide) (Nat.le_refl _) ?_; intro w2 hown2 hgrow2; have hb2 := Kept.mk (below_of_grown hgrow2); clear hown2 hgrow2)
    go_loop [6] (fun k => k = .int .i64 0) (fun _ => 0)
    case atStart => exact rfl
    case round =>
      cases hrel
      go_wp2
      go_loop [9] (fun k => k = .int .i64 0) (fun _ => 0)
      case atStart => exact rfl
      case round =>
        cases hrel
        go_wp2
        go_loop [11] (fun k => k = .int .i64 0) (fun _ => 0)
        case atStart => exact rfl
        case round =>
          cases hrel
          go_wp2
          go_loop [14] (fun k => k = .int .i64 0) (fun _ => 0)
          case atStart => exact rfl
          case round =>
            cases hrel
            go_wp2
            go_ret
            exact ⟨rfl, hb2.out⟩
theorem infoNCells : (Tryz.prog.info? 155).map (fun i => (i.zero, i.size, i.bytes)) = some (some (.slice none 0 0), 1, 24) := by kernel_rfl
set_option maxRecDepth 100000 in
theorem nilCells (w : World) : Calls Tryz.prog 73 #[.slice none 0 0] w fun e w' => e = .returned (.bool true) ∧ Below w.heap.size w w' := by
  obtain ⟨iS, hiS, hzS, hsS, hbS⟩ := info_parts infoNCells
  go_enter Tryz.func73, Tryz.ntmps73
  go_wp2
  go_loop [3] (fun k => k = .int .i64 0) (fun _ => 0)
  case atStart => exact rfl
  case round =>
    cases hrel
    go_wp2_with (at_make; refine wpList_make_full _ rfl _ _ 64 rfl w.heap.size 155 iS (.slice none 0 0) 1 Tryz.underlying64 hiS hzS hsS .i64 .i64 _ _ 0 (by rfl) (by rfl) rfl rfl (by rw [hbS]; omega) (by decide) (Nat.le_refl _) ?_; intro w2 hown2 hgrow2; have hb2 := Kept.mk (below_of_grown hgrow2); clear hown2 hgrow2)
    go_loop [6] (fun k => k = .int .i64 0) (fun _ => 0)
    case atStart => exact rfl
    case round =>
      cases hrel
      go_wp2
      go_loop [9] (fun k => k = .int .i64 0) (fun _ => 0)
      case atStart => exact rfl
      case round =>
        cases hrel
        go_wp2
        go_loop [11] (fun k => k = .int .i64 0) (fun _ => 0)
        case atStart => exact rfl
        case round =>
          cases hrel
          go_wp2
          go_loop [14] (fun k => k = .int .i64 0) (fun _ => 0)
          case atStart => exact rfl
          case round =>
            cases hrel
            go_wp2
            go_ret
            exact ⟨rfl, hb2.out⟩
theorem infoNHelds : (Tryz.prog.info? 160).map (fun i => (i.zero, i.size, i.bytes)) = some (some (.slice none 0 0), 1, 24) := by kernel_rfl
set_option maxRecDepth 100000 in
theorem nilHelds (w : World) : Calls Tryz.prog 74 #[.slice none 0 0] w fun e w' => e = .returned (.bool true) ∧ Below w.heap.size w w' := by
  obtain ⟨iS, hiS, hzS, hsS, hbS⟩ := info_parts infoNHelds
  go_enter Tryz.func74, Tryz.ntmps74
  go_wp2
  go_loop [3] (fun k => k = .int .i64 0) (fun _ => 0)
  case atStart => exact rfl
  case round =>
    cases hrel
    go_wp2_with (at_make; refine wpList_make_full _ rfl _ _ 65 rfl w.heap.size 160 iS (.slice none 0 0) 1 Tryz.underlying65 hiS hzS hsS .i64 .i64 _ _ 0 (by rfl) (by rfl) rfl rfl (by rw [hbS]; omega) (by decide) (Nat.le_refl _) ?_; intro w2 hown2 hgrow2; have hb2 := Kept.mk (below_of_grown hgrow2); clear hown2 hgrow2)
    go_loop [6] (fun k => k = .int .i64 0) (fun _ => 0)
    case atStart => exact rfl
    case round =>
      cases hrel
      go_wp2
      go_loop [9] (fun k => k = .int .i64 0) (fun _ => 0)
      case atStart => exact rfl
      case round =>
        cases hrel
        go_wp2
        go_loop [11] (fun k => k = .int .i64 0) (fun _ => 0)
        case atStart => exact rfl
        case round =>
          cases hrel
          go_wp2
          go_loop [14] (fun k => k = .int .i64 0) (fun _ => 0)
          case atStart => exact rfl
          case round =>
            cases hrel
            go_wp2
            go_ret
            exact ⟨rfl, hb2.out⟩
theorem infoNTokens : (Tryz.prog.info? 165).map (fun i => (i.zero, i.size, i.bytes)) = some (some (.slice none 0 0), 1, 24) := by kernel_rfl
set_option maxRecDepth 100000 in
theorem nilTokens (w : World) : Calls Tryz.prog 75 #[.slice none 0 0] w fun e w' => e = .returned (.bool true) ∧ Below w.heap.size w w' := by
  obtain ⟨iS, hiS, hzS, hsS, hbS⟩ := info_parts infoNTokens
  go_enter Tryz.func75, Tryz.ntmps75
  go_wp2
  go_loop [3] (fun k => k = .int .i64 0) (fun _ => 0)
  case atStart => exact rfl
  case round =>
    cases hrel
    go_wp2_with (at_make; refine wpList_make_full _ rfl _ _ 66 rfl w.heap.size 165 iS (.slice none 0 0) 1 Tryz.underlying66 hiS hzS hsS .i64 .i64 _ _ 0 (by rfl) (by rfl) rfl rfl (by rw [hbS]; omega) (by decide) (Nat.le_refl _) ?_; intro w2 hown2 hgrow2; have hb2 := Kept.mk (below_of_grown hgrow2); clear hown2 hgrow2)
    go_loop [6] (fun k => k = .int .i64 0) (fun _ => 0)
    case atStart => exact rfl
    case round =>
      cases hrel
      go_wp2
      go_loop [9] (fun k => k = .int .i64 0) (fun _ => 0)
      case atStart => exact rfl
      case round =>
        cases hrel
        go_wp2
        go_loop [11] (fun k => k = .int .i64 0) (fun _ => 0)
        case atStart => exact rfl
        case round =>
          cases hrel
          go_wp2
          go_loop [14] (fun k => k = .int .i64 0) (fun _ => 0)
          case atStart => exact rfl
          case round =>
            cases hrel
            go_wp2
            go_ret
            exact ⟨rfl, hb2.out⟩
theorem infoNExprs : (Tryz.prog.info? 170).map (fun i => (i.zero, i.size, i.bytes)) = some (some (.slice none 0 0), 1, 24) := by kernel_rfl
set_option maxRecDepth 100000 in
theorem nilExprs (w : World) : Calls Tryz.prog 76 #[.slice none 0 0] w fun e w' => e = .returned (.bool true) ∧ Below w.heap.size w w' := by
  obtain ⟨iS, hiS, hzS, hsS, hbS⟩ := info_parts infoNExprs
  go_enter Tryz.func76, Tryz.ntmps76
  go_wp2
  go_loop [3] (fun k => k = .int .i64 0) (fun _ => 0)
  case atStart => exact rfl
  case round =>
    cases hrel
    go_wp2_with (at_make; refine wpList_make_full _ rfl _ _ 67 rfl w.heap.size 170 iS (.slice none 0 0) 1 Tryz.underlying67 hiS hzS hsS .i64 .i64 _ _ 0 (by rfl) (by rfl) rfl rfl (by rw [hbS]; omega) (by decide) (Nat.le_refl _) ?_; intro w2 hown2 hgrow2; have hb2 := Kept.mk (below_of_grown hgrow2); clear hown2 hgrow2)
    go_loop [6] (fun k => k = .int .i64 0) (fun _ => 0)
    case atStart => exact rfl
    case round =>
      cases hrel
      go_wp2
      go_loop [9] (fun k => k = .int .i64 0) (fun _ => 0)
      case atStart => exact rfl
      case round =>
        cases hrel
        go_wp2
        go_loop [11] (fun k => k = .int .i64 0) (fun _ => 0)
        case atStart => exact rfl
        case round =>
          cases hrel
          go_wp2
          go_loop [14] (fun k => k = .int .i64 0) (fun _ => 0)
          case atStart => exact rfl
          case round =>
            cases hrel
            go_wp2
            go_ret
            exact ⟨rfl, hb2.out⟩
theorem infoNItems : (Tryz.prog.info? 178).map (fun i => (i.zero, i.size, i.bytes)) = some (some (.slice none 0 0), 1, 24) := by kernel_rfl
set_option maxRecDepth 100000 in
theorem nilItems (w : World) : Calls Tryz.prog 77 #[.slice none 0 0] w fun e w' => e = .returned (.bool true) ∧ Below w.heap.size w w' := by
  obtain ⟨iS, hiS, hzS, hsS, hbS⟩ := info_parts infoNItems
  go_enter Tryz.func77, Tryz.ntmps77
  go_wp2
  go_loop [3] (fun k => k = .int .i64 0) (fun _ => 0)
  case atStart => exact rfl
  case round =>
    cases hrel
    go_wp2_with (at_make; refine wpList_make_full _ rfl _ _ 68 rfl w.heap.size 178 iS (.slice none 0 0) 1 Tryz.underlying68 hiS hzS hsS .i64 .i64 _ _ 0 (by rfl) (by rfl) rfl rfl (by rw [hbS]; omega) (by decide) (Nat.le_refl _) ?_; intro w2 hown2 hgrow2; have hb2 := Kept.mk (below_of_grown hgrow2); clear hown2 hgrow2)
    go_loop [6] (fun k => k = .int .i64 0) (fun _ => 0)
    case atStart => exact rfl
    case round =>
      cases hrel
      go_wp2
      go_loop [9] (fun k => k = .int .i64 0) (fun _ => 0)
      case atStart => exact rfl
      case round =>
        cases hrel
        go_wp2
        go_loop [11] (fun k => k = .int .i64 0) (fun _ => 0)
        case atStart => exact rfl
        case round =>
          cases hrel
          go_wp2
          go_loop [14] (fun k => k = .int .i64 0) (fun _ => 0)
          case atStart => exact rfl
          case round =>
            cases hrel
            go_wp2
            go_ret
            exact ⟨rfl, hb2.out⟩
theorem infoNShowns : (Tryz.prog.info? 183).map (fun i => (i.zero, i.size, i.bytes)) = some (some (.slice none 0 0), 1, 24) := by kernel_rfl
set_option maxRecDepth 100000 in
theorem nilShowns (w : World) : Calls Tryz.prog 78 #[.slice none 0 0] w fun e w' => e = .returned (.bool true) ∧ Below w.heap.size w w' := by
  obtain ⟨iS, hiS, hzS, hsS, hbS⟩ := info_parts infoNShowns
  go_enter Tryz.func78, Tryz.ntmps78
  go_wp2
  go_loop [3] (fun k => k = .int .i64 0) (fun _ => 0)
  case atStart => exact rfl
  case round =>
    cases hrel
    go_wp2_with (at_make; refine wpList_make_full _ rfl _ _ 69 rfl w.heap.size 183 iS (.slice none 0 0) 1 Tryz.underlying69 hiS hzS hsS .i64 .i64 _ _ 0 (by rfl) (by rfl) rfl rfl (by rw [hbS]; omega) (by decide) (Nat.le_refl _) ?_; intro w2 hown2 hgrow2; have hb2 := Kept.mk (below_of_grown hgrow2); clear hown2 hgrow2)
    go_loop [6] (fun k => k = .int .i64 0) (fun _ => 0)
    case atStart => exact rfl
    case round =>
      cases hrel
      go_wp2
      go_loop [9] (fun k => k = .int .i64 0) (fun _ => 0)
      case atStart => exact rfl
      case round =>
        cases hrel
        go_wp2
        go_loop [11] (fun k => k = .int .i64 0) (fun _ => 0)
        case atStart => exact rfl
        case round =>
          cases hrel
          go_wp2
          go_loop [14] (fun k => k = .int .i64 0) (fun _ => 0)
          case atStart => exact rfl
          case round =>
            cases hrel
            go_wp2
            go_ret
            exact ⟨rfl, hb2.out⟩
theorem infoNParts : (Tryz.prog.info? 187).map (fun i => (i.zero, i.size, i.bytes)) = some (some (.slice none 0 0), 1, 24) := by kernel_rfl
set_option maxRecDepth 100000 in
theorem nilParts (w : World) : Calls Tryz.prog 79 #[.slice none 0 0] w fun e w' => e = .returned (.bool true) ∧ Below w.heap.size w w' := by
  obtain ⟨iS, hiS, hzS, hsS, hbS⟩ := info_parts infoNParts
  go_enter Tryz.func79, Tryz.ntmps79
  go_wp2
  go_loop [3] (fun k => k = .int .i64 0) (fun _ => 0)
  case atStart => exact rfl
  case round =>
    cases hrel
    go_wp2_with (at_make; refine wpList_make_full _ rfl _ _ 70 rfl w.heap.size 187 iS (.slice none 0 0) 1 Tryz.underlying70 hiS hzS hsS .i64 .i64 _ _ 0 (by rfl) (by rfl) rfl rfl (by rw [hbS]; omega) (by decide) (Nat.le_refl _) ?_; intro w2 hown2 hgrow2; have hb2 := Kept.mk (below_of_grown hgrow2); clear hown2 hgrow2)
    go_loop [6] (fun k => k = .int .i64 0) (fun _ => 0)
    case atStart => exact rfl
    case round =>
      cases hrel
      go_wp2
      go_loop [9] (fun k => k = .int .i64 0) (fun _ => 0)
      case atStart => exact rfl
      case round =>
        cases hrel
        go_wp2
        go_loop [11] (fun k => k = .int .i64 0) (fun _ => 0)
        case atStart => exact rfl
        case round =>
          cases hrel
          go_wp2
          go_loop [14] (fun k => k = .int .i64 0) (fun _ => 0)
          case atStart => exact rfl
          case round =>
            cases hrel
            go_wp2
            go_ret
            exact ⟨rfl, hb2.out⟩
theorem infoNCommands : (Tryz.prog.info? 193).map (fun i => (i.zero, i.size, i.bytes)) = some (some (.slice none 0 0), 1, 24) := by kernel_rfl
set_option maxRecDepth 100000 in
theorem nilCommands (w : World) : Calls Tryz.prog 80 #[.slice none 0 0] w fun e w' => e = .returned (.bool true) ∧ Below w.heap.size w w' := by
  obtain ⟨iS, hiS, hzS, hsS, hbS⟩ := info_parts infoNCommands
  go_enter Tryz.func80, Tryz.ntmps80
  go_wp2
  go_loop [3] (fun k => k = .int .i64 0) (fun _ => 0)
  case atStart => exact rfl
  case round =>
    cases hrel
    go_wp2_with (at_make; refine wpList_make_full _ rfl _ _ 71 rfl w.heap.size 193 iS (.slice none 0 0) 1 Tryz.underlying71 hiS hzS hsS .i64 .i64 _ _ 0 (by rfl) (by rfl) rfl rfl (by rw [hbS]; omega) (by decide) (Nat.le_refl _) ?_; intro w2 hown2 hgrow2; have hb2 := Kept.mk (below_of_grown hgrow2); clear hown2 hgrow2)
    go_loop [6] (fun k => k = .int .i64 0) (fun _ => 0)
    case atStart => exact rfl
    case round =>
      cases hrel
      go_wp2
      go_loop [9] (fun k => k = .int .i64 0) (fun _ => 0)
      case atStart => exact rfl
      case round =>
        cases hrel
        go_wp2
        go_loop [11] (fun k => k = .int .i64 0) (fun _ => 0)
        case atStart => exact rfl
        case round =>
          cases hrel
          go_wp2
          go_loop [14] (fun k => k = .int .i64 0) (fun _ => 0)
          case atStart => exact rfl
          case round =>
            cases hrel
            go_wp2
            go_ret
            exact ⟨rfl, hb2.out⟩
end Go.Proofs.YtmdbjoebcolcfaaGreatDoor.Flt
