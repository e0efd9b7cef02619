/- The walks over the kit's flat.. at no list at all. -/
import Derived.Test.YtakccaldcolbmaaGreatDoorFlatKit
import Derived.Test.YtakccaldcolbmaaGreatDoorKitBytes
import Derived.OwnWalk
namespace Go.Proofs.YtakccaldcolbmaaGreatDoor.Flt
open Go Go.RowKit Go.Proofs.YtakccaldcolbmaaGreatDoor.Kb

theorem infoNWords : (Tryz.prog.info? 137).map (fun i => (i.zero, i.size, i.bytes)) = some (some (.slice none 0 0), 1, 24) := by kernel_rfl
set_option maxRecDepth 100000 in
theorem nilWords (w : World) : Calls Tryz.prog 40 #[.slice none 0 0] w fun e w' => e = .returned (.bool true) ∧ Below w.heap.size w w' := by
  obtain ⟨iS, hiS, hzS, hsS, hbS⟩ := info_parts infoNWords
  go_enter Tryz.func40, Tryz.ntmps40
  go_wp2
  go_loop [3] (fun k => k = .int .i64 0) (fun _ => 0)
  case atStart => exact rfl
  case round =>
    cases hrel
    go_wp2_with (at_make; refine wpList_make_full _ rfl _ _ 66 rfl w.heap.size 137 iS (.slice none 0 0) 1 Tryz.underlying66 hiS hzS hsS .i64 .i64 _ _ 0 (by rfl) (by rfl) rfl rfl (by rw [hbS]; omega) (by decide) (Nat.le_refl _) ?_; intro w2 hown2 hgrow2; have hb2 := Kept.mk (below_of_grown hgrow2); clear hown2 hgrow2)
    go_loop [6] (fun k => k = .int .i64 0) (fun _ => 0)
    case atStart => exact rfl
    case round =>
      cases hrel
      go_wp2
      go_loop [9] (fun k => k = .int .i64 0) (fun _ => 0)
      case atStart => exact rfl
      case round =>
        cases hrel
        go_wp2
        go_loop [11] (fun k => k = .int .i64 0) (fun _ => 0)
        case atStart => exact rfl
        case round =>
          cases hrel
          go_wp2
          go_loop [14] (fun k => k = .int .i64 0) (fun _ => 0)
          case atStart => exact rfl
          case round =>
            cases hrel
            go_wp2
            go_ret
            exact ⟨rfl, hb2.out⟩
theorem infoNInts : (Tryz.prog.info? 138).map (fun i => (i.zero, i.size, i.bytes)) = some (some (.slice none 0 0), 1, 24) := by kernel_rfl
set_option maxRecDepth 100000 in
theorem nilInts (w : World) : Calls Tryz.prog 41 #[.slice none 0 0] w fun e w' => e = .returned (.bool true) ∧ Below w.heap.size w w' := by
  obtain ⟨iS, hiS, hzS, hsS, hbS⟩ := info_parts infoNInts
  go_enter Tryz.func41, Tryz.ntmps41
  go_wp2
  go_loop [3] (fun k => k = .int .i64 0) (fun _ => 0)
  case atStart => exact rfl
  case round =>
    cases hrel
    go_wp2_with (at_make; refine wpList_make_full _ rfl _ _ 67 rfl w.heap.size 138 iS (.slice none 0 0) 1 Tryz.underlying67 hiS hzS hsS .i64 .i64 _ _ 0 (by rfl) (by rfl) rfl rfl (by rw [hbS]; omega) (by decide) (Nat.le_refl _) ?_; intro w2 hown2 hgrow2; have hb2 := Kept.mk (below_of_grown hgrow2); clear hown2 hgrow2)
    go_loop [6] (fun k => k = .int .i64 0) (fun _ => 0)
    case atStart => exact rfl
    case round =>
      cases hrel
      go_wp2
      go_loop [9] (fun k => k = .int .i64 0) (fun _ => 0)
      case atStart => exact rfl
      case round =>
        cases hrel
        go_wp2
        go_loop [11] (fun k => k = .int .i64 0) (fun _ => 0)
        case atStart => exact rfl
        case round =>
          cases hrel
          go_wp2
          go_loop [14] (fun k => k = .int .i64 0) (fun _ => 0)
          case atStart => exact rfl
          case round =>
            cases hrel
            go_wp2
            go_ret
            exact ⟨rfl, hb2.out⟩
theorem infoNLongs : (Tryz.prog.info? 139).map (fun i => (i.zero, i.size, i.bytes)) = some (some (.slice none 0 0), 1, 24) := by kernel_rfl
set_option maxRecDepth 100000 in
theorem nilLongs (w : World) : Calls Tryz.prog 42 #[.slice none 0 0] w fun e w' => e = .returned (.bool true) ∧ Below w.heap.size w w' := by
  obtain ⟨iS, hiS, hzS, hsS, hbS⟩ := info_parts infoNLongs
  go_enter Tryz.func42, Tryz.ntmps42
  go_wp2
  go_loop [3] (fun k => k = .int .i64 0) (fun _ => 0)
  case atStart => exact rfl
  case round =>
    cases hrel
    go_wp2_with (at_make; refine wpList_make_full _ rfl _ _ 68 rfl w.heap.size 139 iS (.slice none 0 0) 1 Tryz.underlying68 hiS hzS hsS .i64 .i64 _ _ 0 (by rfl) (by rfl) rfl rfl (by rw [hbS]; omega) (by decide) (Nat.le_refl _) ?_; intro w2 hown2 hgrow2; have hb2 := Kept.mk (below_of_grown hgrow2); clear hown2 hgrow2)
    go_loop [6] (fun k => k = .int .i64 0) (fun _ => 0)
    case atStart => exact rfl
    case round =>
      cases hrel
      go_wp2
      go_loop [9] (fun k => k = .int .i64 0) (fun _ => 0)
      case atStart => exact rfl
      case round =>
        cases hrel
        go_wp2
        go_loop [11] (fun k => k = .int .i64 0) (fun _ => 0)
        case atStart => exact rfl
        case round =>
          cases hrel
          go_wp2
          go_loop [14] (fun k => k = .int .i64 0) (fun _ => 0)
          case atStart => exact rfl
          case round =>
            cases hrel
            go_wp2
            go_ret
            exact ⟨rfl, hb2.out⟩
theorem infoNBytes : (Tryz.prog.info? 46).map (fun i => (i.zero, i.size, i.bytes)) = some (some (.slice none 0 0), 1, 24) := by kernel_rfl
set_option maxRecDepth 100000 in
theorem nilBytes (w : World) : Calls Tryz.prog 44 #[.slice none 0 0] w fun e w' => e = .returned (.bool true) ∧ Below w.heap.size w w' := by
  obtain ⟨iS, hiS, hzS, hsS, hbS⟩ := info_parts infoNBytes
  go_enter Tryz.func44, Tryz.ntmps44
  go_wp2
  go_loop [3] (fun k => k = .int .i64 0) (fun _ => 0)
  case atStart => exact rfl
  case round =>
    cases hrel
    go_wp2_with (at_make; refine wpList_make_full _ rfl _ _ 69 rfl w.heap.size 46 iS (.slice none 0 0) 1 Tryz.underlying69 hiS hzS hsS .i64 .i64 _ _ 0 (by rfl) (by rfl) rfl rfl (by rw [hbS]; omega) (by decide) (Nat.le_refl _) ?_; intro w2 hown2 hgrow2; have hb2 := Kept.mk (below_of_grown hgrow2); clear hown2 hgrow2)
    go_loop [6] (fun k => k = .int .i64 0) (fun _ => 0)
    case atStart => exact rfl
    case round =>
      cases hrel
      go_wp2
      go_loop [9] (fun k => k = .int .i64 0) (fun _ => 0)
      case atStart => exact rfl
      case round =>
        cases hrel
        go_wp2
        go_loop [11] (fun k => k = .int .i64 0) (fun _ => 0)
        case atStart => exact rfl
        case round =>
          cases hrel
          go_wp2
          go_loop [14] (fun k => k = .int .i64 0) (fun _ => 0)
          case atStart => exact rfl
          case round =>
            cases hrel
            go_wp2
            go_ret
            exact ⟨rfl, hb2.out⟩
theorem infoNNodes : (Tryz.prog.info? 142).map (fun i => (i.zero, i.size, i.bytes)) = some (some (.slice none 0 0), 1, 24) := by kernel_rfl
set_option maxRecDepth 100000 in
theorem nilNodes (w : World) : Calls Tryz.prog 45 #[.slice none 0 0] w fun e w' => e = .returned (.bool true) ∧ Below w.heap.size w w' := by
  obtain ⟨iS, hiS, hzS, hsS, hbS⟩ := info_parts infoNNodes
  go_enter Tryz.func45, Tryz.ntmps45
  go_wp2
  go_loop [3] (fun k => k = .int .i64 0) (fun _ => 0)
  case atStart => exact rfl
  case round =>
    cases hrel
    go_wp2_with (at_make; refine wpList_make_full _ rfl _ _ 70 rfl w.heap.size 142 iS (.slice none 0 0) 1 Tryz.underlying70 hiS hzS hsS .i64 .i64 _ _ 0 (by rfl) (by rfl) rfl rfl (by rw [hbS]; omega) (by decide) (Nat.le_refl _) ?_; intro w2 hown2 hgrow2; have hb2 := Kept.mk (below_of_grown hgrow2); clear hown2 hgrow2)
    go_loop [6] (fun k => k = .int .i64 0) (fun _ => 0)
    case atStart => exact rfl
    case round =>
      cases hrel
      go_wp2
      go_loop [9] (fun k => k = .int .i64 0) (fun _ => 0)
      case atStart => exact rfl
      case round =>
        cases hrel
        go_wp2
        go_loop [11] (fun k => k = .int .i64 0) (fun _ => 0)
        case atStart => exact rfl
        case round =>
          cases hrel
          go_wp2
          go_loop [14] (fun k => k = .int .i64 0) (fun _ => 0)
          case atStart => exact rfl
          case round =>
            cases hrel
            go_wp2
            go_ret
            exact ⟨rfl, hb2.out⟩
theorem infoNFates : (Tryz.prog.info? 38).map (fun i => (i.zero, i.size, i.bytes)) = some (some (.slice none 0 0), 1, 24) := by kernel_rfl
set_option maxRecDepth 100000 in
theorem nilFates (w : World) : Calls Tryz.prog 46 #[.slice none 0 0] w fun e w' => e = .returned (.bool true) ∧ Below w.heap.size w w' := by
  obtain ⟨iS, hiS, hzS, hsS, hbS⟩ := info_parts infoNFates
  go_enter Tryz.func46, Tryz.ntmps46
  go_wp2
  go_loop [3] (fun k => k = .int .i64 0) (fun _ => 0)
  case atStart => exact rfl
  case round =>
    cases hrel
    go_wp2_with (at_make; refine wpList_make_full _ rfl _ _ 71 rfl w.heap.size 38 iS (.slice none 0 0) 1 Tryz.underlying71 hiS hzS hsS .i64 .i64 _ _ 0 (by rfl) (by rfl) rfl rfl (by rw [hbS]; omega) (by decide) (Nat.le_refl _) ?_; intro w2 hown2 hgrow2; have hb2 := Kept.mk (below_of_grown hgrow2); clear hown2 hgrow2)
    go_loop [6] (fun k => k = .int .i64 0) (fun _ => 0)
    case atStart => exact rfl
    case round =>
      cases hrel
      go_wp2
      go_loop [9] (fun k => k = .int .i64 0) (fun _ => 0)
      case atStart => exact rfl
      case round =>
        cases hrel
        go_wp2
        go_loop [11] (fun k => k = .int .i64 0) (fun _ => 0)
        case atStart => exact rfl
        case round =>
          cases hrel
          go_wp2
          go_loop [14] (fun k => k = .int .i64 0) (fun _ => 0)
          case atStart => exact rfl
          case round =>
            cases hrel
            go_wp2
            go_ret
            exact ⟨rfl, hb2.out⟩
theorem infoNSpans : (Tryz.prog.info? 147).map (fun i => (i.zero, i.size, i.bytes)) = some (some (.slice none 0 0), 1, 24) := by kernel_rfl
set_option maxRecDepth 100000 in
theorem nilSpans (w : World) : Calls Tryz.prog 47 #[.slice none 0 0] w fun e w' => e = .returned (.bool true) ∧ Below w.heap.size w w' := by
  obtain ⟨iS, hiS, hzS, hsS, hbS⟩ := info_parts infoNSpans
  go_enter Tryz.func47, Tryz.ntmps47
  go_wp2
  go_loop [3] (fun k => k = .int .i64 0) (fun _ => 0)
  case atStart => exact rfl
  case round =>
    cases hrel
    go_wp2_with (at_make; refine wpList_make_full _ rfl _ _ 72 rfl w.heap.size 147 iS (.slice none 0 0) 1 Tryz.underlying72 hiS hzS hsS .i64 .i64 _ _ 0 (by rfl) (by rfl) rfl rfl (by rw [hbS]; omega) (by decide) (Nat.le_refl _) ?_; intro w2 hown2 hgrow2; have hb2 := Kept.mk (below_of_grown hgrow2); clear hown2 hgrow2)
    go_loop [6] (fun k => k = .int .i64 0) (fun _ => 0)
    case atStart => exact rfl
    case round =>
      cases hrel
      go_wp2
      go_loop [9] (fun k => k = .int .i64 0) (fun _ => 0)
      case atStart => exact rfl
      case round =>
        cases hrel
        go_wp2
        go_loop [11] (fun k => k = .int .i64 0) (fun _ => 0)
        case atStart => exact rfl
        case round =>
          cases hrel
          go_wp2
          go_loop [14] (fun k => k = .int .i64 0) (fun _ => 0)
          case atStart => exact rfl
          case round =>
            cases hrel
            go_wp2
            go_ret
            exact ⟨rfl, hb2.out⟩
theorem infoNDirties : (Tryz.prog.info? 152).map (fun i => (i.zero, i.size, i.bytes)) = some (some (.slice none 0 0), 1, 24) := by kernel_rfl
set_option maxRecDepth 100000 in
theorem nilDirties (w : World) : Calls Tryz.prog 48 #[.slice none 0 0] w fun e w' => e = .returned (.bool true) ∧ Below w.heap.size w w' := by
  obtain ⟨iS, hiS, hzS, hsS, hbS⟩ := info_parts infoNDirties
  go_enter Tryz.func48, Tryz.ntmps48
  go_wp2
  go_loop [3] (fun k => k = .int .i64 0) (fun _ => 0)
  case atStart => exact rfl
  case round =>
    cases hrel
    go_wp2_with (at_make; refine wpList_make_full _ rfl _ _ 73 rfl w.heap.size 152 iS (.slice none 0 0) 1 Tryz.underlying73 hiS hzS hsS .i64 .i64 _ _ 0 (by rfl) (by rfl) rfl rfl (by rw [hbS]; omega) (by decide) (Nat.le_refl _) ?_; intro w2 hown2 hgrow2; have hb2 := Kept.mk (below_of_grown hgrow2); clear hown2 hgrow2)
    go_loop [6] (fun k => k = .int .i64 0) (fun _ => 0)
    case atStart => exact rfl
    case round =>
      cases hrel
      go_wp2
      go_loop [9] (fun k => k = .int .i64 0) (fun _ => 0)
      case atStart => exact rfl
      case round =>
        cases hrel
        go_wp2
        go_loop [11] (fun k => k = .int .i64 0) (fun _ => 0)
        case atStart => exact rfl
        case round =>
          cases hrel
          go_wp2
          go_loop [14] (fun k => k = .int .i64 0) (fun _ => 0)
          case atStart => exact rfl
          case round =>
            cases hrel
            go_wp2
            go_ret
            exact ⟨rfl, hb2.out⟩
theorem infoNRecords : (Tryz.prog.info? 156).map (fun i => (i.zero, i.size, i.bytes)) = some (some (.slice none 0 0), 1, 24) := by kernel_rfl
set_option maxRecDepth 100000 in
theorem nilRecords (w : World) : Calls Tryz.prog 49 #[.slice none 0 0] w fun e w' => e = .returned (.bool true) ∧ Below w.heap.size w w' := by
  obtain ⟨iS, hiS, hzS, hsS, hbS⟩ := info_parts infoNRecords
  go_enter Tryz.func49, Tryz.ntmps49
  go_wp2
  go_loop [3] (fun k => k = .int .i64 0) (fun _ => 0)
  case atStart => exact rfl
  case round =>
    cases hrel
    go_wp2_with (at_make; refine wpList_make_full _ rfl _ _ 74 rfl w.heap.size 156 iS (.slice none 0 0) 1 Tryz.underlying74 hiS hzS hsS .i64 .i64 _ _ 0 (by rfl) (by rfl) rfl rfl (by rw [hbS]; omega) (by decide) (Nat.le_refl _) ?_; intro w2 hown2 hgrow2; have hb2 := Kept.mk (below_of_grown hgrow2); clear hown2 hgrow2)
    go_loop [6] (fun k => k = .int .i64 0) (fun _ => 0)
    case atStart => exact rfl
    case round =>
      cases hrel
      go_wp2
      go_loop [9] (fun k => k = .int .i64 0) (fun _ => 0)
      case atStart => exact rfl
      case round =>
        cases hrel
        go_wp2
        go_loop [11] (fun k => k = .int .i64 0) (fun _ => 0)
        case atStart => exact rfl
        case round =>
          cases hrel
          go_wp2
          go_loop [14] (fun k => k = .int .i64 0) (fun _ => 0)
          case atStart => exact rfl
          case round =>
            cases hrel
            go_wp2
            go_ret
            exact ⟨rfl, hb2.out⟩
theorem infoNCells : (Tryz.prog.info? 162).map (fun i => (i.zero, i.size, i.bytes)) = some (some (.slice none 0 0), 1, 24) := by kernel_rfl
set_option maxRecDepth 100000 in
theorem nilCells (w : World) : Calls Tryz.prog 50 #[.slice none 0 0] w fun e w' => e = .returned (.bool true) ∧ Below w.heap.size w w' := by
  obtain ⟨iS, hiS, hzS, hsS, hbS⟩ := info_parts infoNCells
  go_enter Tryz.func50, Tryz.ntmps50
  go_wp2
  go_loop [3] (fun k => k = .int .i64 0) (fun _ => 0)
  case atStart => exact rfl
  case round =>
    cases hrel
    go_wp2_with (at_make; refine wpList_make_full _ rfl _ _ 75 rfl w.heap.size 162 iS (.slice none 0 0) 1 Tryz.underlying75 hiS hzS hsS .i64 .i64 _ _ 0 (by rfl) (by rfl) rfl rfl (by rw [hbS]; omega) (by decide) (Nat.le_refl _) ?_; intro w2 hown2 hgrow2; have hb2 := Kept.mk (below_of_grown hgrow2); clear hown2 hgrow2)
    go_loop [6] (fun k => k = .int .i64 0) (fun _ => 0)
    case atStart => exact rfl
    case round =>
      cases hrel
      go_wp2
      go_loop [9] (fun k => k = .int .i64 0) (fun _ => 0)
      case atStart => exact rfl
      case round =>
        cases hrel
        go_wp2
        go_loop [11] (fun k => k = .int .i64 0) (fun _ => 0)
        case atStart => exact rfl
        case round =>
          cases hrel
          go_wp2
          go_loop [14] (fun k => k = .int .i64 0) (fun _ => 0)
          case atStart => exact rfl
          case round =>
            cases hrel
            go_wp2
            go_ret
            exact ⟨rfl, hb2.out⟩
theorem infoNHelds : (Tryz.prog.info? 167).map (fun i => (i.zero, i.size, i.bytes)) = some (some (.slice none 0 0), 1, 24) := by kernel_rfl
set_option maxRecDepth 100000 in
theorem nilHelds (w : World) : Calls Tryz.prog 51 #[.slice none 0 0] w fun e w' => e = .returned (.bool true) ∧ Below w.heap.size w w' := by
  obtain ⟨iS, hiS, hzS, hsS, hbS⟩ := info_parts infoNHelds
  go_enter Tryz.func51, Tryz.ntmps51
  go_wp2
  go_loop [3] (fun k => k = .int .i64 0) (fun _ => 0)
  case atStart => exact rfl
  case round =>
    cases hrel
    go_wp2_with (at_make; refine wpList_make_full _ rfl _ _ 76 rfl w.heap.size 167 iS (.slice none 0 0) 1 Tryz.underlying76 hiS hzS hsS .i64 .i64 _ _ 0 (by rfl) (by rfl) rfl rfl (by rw [hbS]; omega) (by decide) (Nat.le_refl _) ?_; intro w2 hown2 hgrow2; have hb2 := Kept.mk (below_of_grown hgrow2); clear hown2 hgrow2)
    go_loop [6] (fun k => k = .int .i64 0) (fun _ => 0)
    case atStart => exact rfl
    case round =>
      cases hrel
      go_wp2
      go_loop [9] (fun k => k = .int .i64 0) (fun _ => 0)
      case atStart => exact rfl
      case round =>
        cases hrel
        go_wp2
        go_loop [11] (fun k => k = .int .i64 0) (fun _ => 0)
        case atStart => exact rfl
        case round =>
          cases hrel
          go_wp2
          go_loop [14] (fun k => k = .int .i64 0) (fun _ => 0)
          case atStart => exact rfl
          case round =>
            cases hrel
            go_wp2
            go_ret
            exact ⟨rfl, hb2.out⟩
theorem infoNTokens : (Tryz.prog.info? 172).map (fun i => (i.zero, i.size, i.bytes)) = some (some (.slice none 0 0), 1, 24) := by kernel_rfl
set_option maxRecDepth 100000 in
theorem nilTokens (w : World) : Calls Tryz.prog 52 #[.slice none 0 0] w fun e w' => e = .returned (.bool true) ∧ Below w.heap.size w w' := by
  obtain ⟨iS, hiS, hzS, hsS, hbS⟩ := info_parts infoNTokens
  go_enter Tryz.func52, Tryz.ntmps52
  go_wp2
  go_loop [3] (fun k => k = .int .i64 0) (fun _ => 0)
  case atStart => exact rfl
  case round =>
    cases hrel
    go_wp2_with (at_make; refine wpList_make_full _ rfl _ _ 77 rfl w.heap.size 172 iS (.slice none 0 0) 1 Tryz.underlying77 hiS hzS hsS .i64 .i64 _ _ 0 (by rfl) (by rfl) rfl rfl (by rw [hbS]; omega) (by decide) (Nat.le_refl _) ?_; intro w2 hown2 hgrow2; have hb2 := Kept.mk (below_of_grown hgrow2); clear hown2 hgrow2)
    go_loop [6] (fun k => k = .int .i64 0) (fun _ => 0)
    case atStart => exact rfl
    case round =>
      cases hrel
      go_wp2
      go_loop [9] (fun k => k = .int .i64 0) (fun _ => 0)
      case atStart => exact rfl
      case round =>
        cases hrel
        go_wp2
        go_loop [11] (fun k => k = .int .i64 0) (fun _ => 0)
        case atStart => exact rfl
        case round =>
          cases hrel
          go_wp2
          go_loop [14] (fun k => k = .int .i64 0) (fun _ => 0)
          case atStart => exact rfl
          case round =>
            cases hrel
            go_wp2
            go_ret
            exact ⟨rfl, hb2.out⟩
theorem infoNExprs : (Tryz.prog.info? 177).map (fun i => (i.zero, i.size, i.bytes)) = some (some (.slice none 0 0), 1, 24) := by kernel_rfl
set_option maxRecDepth 100000 in
theorem nilExprs (w : World) : Calls Tryz.prog 53 #[.slice none 0 0] w fun e w' => e = .returned (.bool true) ∧ Below w.heap.size w w' := by
  obtain ⟨iS, hiS, hzS, hsS, hbS⟩ := info_parts infoNExprs
  go_enter Tryz.func53, Tryz.ntmps53
  go_wp2
  go_loop [3] (fun k => k = .int .i64 0) (fun _ => 0)
  case atStart => exact rfl
  case round =>
    cases hrel
    go_wp2_with (at_make; refine wpList_make_full _ rfl _ _ 78 rfl w.heap.size 177 iS (.slice none 0 0) 1 Tryz.underlying78 hiS hzS hsS .i64 .i64 _ _ 0 (by rfl) (by rfl) rfl rfl (by rw [hbS]; omega) (by decide) (Nat.le_refl _) ?_; intro w2 hown2 hgrow2; have hb2 := Kept.mk (below_of_grown hgrow2); clear hown2 hgrow2)
    go_loop [6] (fun k => k = .int .i64 0) (fun _ => 0)
    case atStart => exact rfl
    case round =>
      cases hrel
      go_wp2
      go_loop [9] (fun k => k = .int .i64 0) (fun _ => 0)
      case atStart => exact rfl
      case round =>
        cases hrel
        go_wp2
        go_loop [11] (fun k => k = .int .i64 0) (fun _ => 0)
        case atStart => exact rfl
        case round =>
          cases hrel
          go_wp2
          go_loop [14] (fun k => k = .int .i64 0) (fun _ => 0)
          case atStart => exact rfl
          case round =>
            cases hrel
            go_wp2
            go_ret
            exact ⟨rfl, hb2.out⟩
theorem infoNItems : (Tryz.prog.info? 185).map (fun i => (i.zero, i.size, i.bytes)) = some (some (.slice none 0 0), 1, 24) := by kernel_rfl
set_option maxRecDepth 100000 in
theorem nilItems (w : World) : Calls Tryz.prog 54 #[.slice none 0 0] w fun e w' => e = .returned (.bool true) ∧ Below w.heap.size w w' := by
  obtain ⟨iS, hiS, hzS, hsS, hbS⟩ := info_parts infoNItems
  go_enter Tryz.func54, Tryz.ntmps54
  go_wp2
  go_loop [3] (fun k => k = .int .i64 0) (fun _ => 0)
  case atStart => exact rfl
  case round =>
    cases hrel
    go_wp2_with (at_make; refine wpList_make_full _ rfl _ _ 79 rfl w.heap.size 185 iS (.slice none 0 0) 1 Tryz.underlying79 hiS hzS hsS .i64 .i64 _ _ 0 (by rfl) (by rfl) rfl rfl (by rw [hbS]; omega) (by decide) (Nat.le_refl _) ?_; intro w2 hown2 hgrow2; have hb2 := Kept.mk (below_of_grown hgrow2); clear hown2 hgrow2)
    go_loop [6] (fun k => k = .int .i64 0) (fun _ => 0)
    case atStart => exact rfl
    case round =>
      cases hrel
      go_wp2
      go_loop [9] (fun k => k = .int .i64 0) (fun _ => 0)
      case atStart => exact rfl
      case round =>
        cases hrel
        go_wp2
        go_loop [11] (fun k => k = .int .i64 0) (fun _ => 0)
        case atStart => exact rfl
        case round =>
          cases hrel
          go_wp2
          go_loop [14] (fun k => k = .int .i64 0) (fun _ => 0)
          case atStart => exact rfl
          case round =>
            cases hrel
            go_wp2
            go_ret
            exact ⟨rfl, hb2.out⟩
theorem infoNShowns : (Tryz.prog.info? 22).map (fun i => (i.zero, i.size, i.bytes)) = some (some (.slice none 0 0), 1, 24) := by kernel_rfl
set_option maxRecDepth 100000 in
theorem nilShowns (w : World) : Calls Tryz.prog 55 #[.slice none 0 0] w fun e w' => e = .returned (.bool true) ∧ Below w.heap.size w w' := by
  obtain ⟨iS, hiS, hzS, hsS, hbS⟩ := info_parts infoNShowns
  go_enter Tryz.func55, Tryz.ntmps55
  go_wp2
  go_loop [3] (fun k => k = .int .i64 0) (fun _ => 0)
  case atStart => exact rfl
  case round =>
    cases hrel
    go_wp2_with (at_make; refine wpList_make_full _ rfl _ _ 80 rfl w.heap.size 22 iS (.slice none 0 0) 1 Tryz.underlying80 hiS hzS hsS .i64 .i64 _ _ 0 (by rfl) (by rfl) rfl rfl (by rw [hbS]; omega) (by decide) (Nat.le_refl _) ?_; intro w2 hown2 hgrow2; have hb2 := Kept.mk (below_of_grown hgrow2); clear hown2 hgrow2)
    go_loop [6] (fun k => k = .int .i64 0) (fun _ => 0)
    case atStart => exact rfl
    case round =>
      cases hrel
      go_wp2
      go_loop [9] (fun k => k = .int .i64 0) (fun _ => 0)
      case atStart => exact rfl
      case round =>
        cases hrel
        go_wp2
        go_loop [11] (fun k => k = .int .i64 0) (fun _ => 0)
        case atStart => exact rfl
        case round =>
          cases hrel
          go_wp2
          go_loop [14] (fun k => k = .int .i64 0) (fun _ => 0)
          case atStart => exact rfl
          case round =>
            cases hrel
            go_wp2
            go_ret
            exact ⟨rfl, hb2.out⟩
theorem infoNParts : (Tryz.prog.info? 189).map (fun i => (i.zero, i.size, i.bytes)) = some (some (.slice none 0 0), 1, 24) := by kernel_rfl
set_option maxRecDepth 100000 in
theorem nilParts (w : World) : Calls Tryz.prog 56 #[.slice none 0 0] w fun e w' => e = .returned (.bool true) ∧ Below w.heap.size w w' := by
  obtain ⟨iS, hiS, hzS, hsS, hbS⟩ := info_parts infoNParts
  go_enter Tryz.func56, Tryz.ntmps56
  go_wp2
  go_loop [3] (fun k => k = .int .i64 0) (fun _ => 0)
  case atStart => exact rfl
  case round =>
    cases hrel
    go_wp2_with (at_make; refine wpList_make_full _ rfl _ _ 81 rfl w.heap.size 189 iS (.slice none 0 0) 1 Tryz.underlying81 hiS hzS hsS .i64 .i64 _ _ 0 (by rfl) (by rfl) rfl rfl (by rw [hbS]; omega) (by decide) (Nat.le_refl _) ?_; intro w2 hown2 hgrow2; have hb2 := Kept.mk (below_of_grown hgrow2); clear hown2 hgrow2)
    go_loop [6] (fun k => k = .int .i64 0) (fun _ => 0)
    case atStart => exact rfl
    case round =>
      cases hrel
      go_wp2
      go_loop [9] (fun k => k = .int .i64 0) (fun _ => 0)
      case atStart => exact rfl
      case round =>
        cases hrel
        go_wp2
        go_loop [11] (fun k => k = .int .i64 0) (fun _ => 0)
        case atStart => exact rfl
        case round =>
          cases hrel
          go_wp2
          go_loop [14] (fun k => k = .int .i64 0) (fun _ => 0)
          case atStart => exact rfl
          case round =>
            cases hrel
            go_wp2
            go_ret
            exact ⟨rfl, hb2.out⟩
theorem infoNCommands : (Tryz.prog.info? 43).map (fun i => (i.zero, i.size, i.bytes)) = some (some (.slice none 0 0), 1, 24) := by kernel_rfl
set_option maxRecDepth 100000 in
theorem nilCommands (w : World) : Calls Tryz.prog 57 #[.slice none 0 0] w fun e w' => e = .returned (.bool true) ∧ Below w.heap.size w w' := by
  obtain ⟨iS, hiS, hzS, hsS, hbS⟩ := info_parts infoNCommands
  go_enter Tryz.func57, Tryz.ntmps57
  go_wp2
  go_loop [3] (fun k => k = .int .i64 0) (fun _ => 0)
  case atStart => exact rfl
  case round =>
    cases hrel
    go_wp2_with (at_make; refine wpList_make_full _ rfl _ _ 82 rfl w.heap.size 43 iS (.slice none 0 0) 1 Tryz.underlying82 hiS hzS hsS .i64 .i64 _ _ 0 (by rfl) (by rfl) rfl rfl (by rw [hbS]; omega) (by decide) (Nat.le_refl _) ?_; intro w2 hown2 hgrow2; have hb2 := Kept.mk (below_of_grown hgrow2); clear hown2 hgrow2)
    go_loop [6] (fun k => k = .int .i64 0) (fun _ => 0)
    case atStart => exact rfl
    case round =>
      cases hrel
      go_wp2
      go_loop [9] (fun k => k = .int .i64 0) (fun _ => 0)
      case atStart => exact rfl
      case round =>
        cases hrel
        go_wp2
        go_loop [11] (fun k => k = .int .i64 0) (fun _ => 0)
        case atStart => exact rfl
        case round =>
          cases hrel
          go_wp2
          go_loop [14] (fun k => k = .int .i64 0) (fun _ => 0)
          case atStart => exact rfl
          case round =>
            cases hrel
            go_wp2
            go_ret
            exact ⟨rfl, hb2.out⟩
end Go.Proofs.YtakccaldcolbmaaGreatDoor.Flt
