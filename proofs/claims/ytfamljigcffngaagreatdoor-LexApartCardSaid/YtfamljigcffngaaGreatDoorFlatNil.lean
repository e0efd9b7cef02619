/- The walks over the kit's flat.. at no list at all. -/
import Derived.Test.YtfamljigcffngaaGreatDoorFlatKit
import Derived.Test.YtfamljigcffngaaGreatDoorKitBytes
import Derived.OwnWalk
namespace Go.Proofs.YtfamljigcffngaaGreatDoor.Flt
open Go Go.RowKit Go.Proofs.YtfamljigcffngaaGreatDoor.Kb

theorem infoNWords : (Tryz.prog.info? 129).map (fun i => (i.zero, i.size, i.bytes)) = some (some (.slice none 0 0), 1, 24) := by kernel_rfl
set_option maxRecDepth 100000 in
theorem nilWords (w : World) : Calls Tryz.prog 41 #[.slice none 0 0] w fun e w' => e = .returned (.bool true) ∧ Below w.heap.size w w' := by
  obtain ⟨iS, hiS, hzS, hsS, hbS⟩ := info_parts infoNWords
  go_enter Tryz.func41, Tryz.ntmps41
  go_wp2
  go_loop [3] (fun k => k = .int .i64 0) (fun _ => 0)
  case atStart => exact rfl
  case round =>
    cases hrel
    go_wp2_with (at_make; refine wpList_make_full _ rfl _ _ 48 rfl w.heap.size 129 iS (.slice none 0 0) 1 Tryz.underlying48 hiS hzS hsS .i64 .i64 _ _ 0 (by rfl) (by rfl) rfl rfl (by rw [hbS]; omega) (by decide) (Nat.le_refl _) ?_; intro w2 hown2 hgrow2; have hb2 := Kept.mk (below_of_grown hgrow2); clear hown2 hgrow2)
    go_loop [6] (fun k => k = .int .i64 0) (fun _ => 0)
    case atStart => exact rfl
    case round =>
      cases hrel
      go_wp2
      go_loop [9] (fun k => k = .int .i64 0) (fun _ => 0)
      case atStart => exact rfl
      case round =>
        cases hrel
        go_wp2
        go_loop [11] (fun k => k = .int .i64 0) (fun _ => 0)
        case atStart => exact rfl
        case round =>
          cases hrel
          go_wp2
          go_loop [14] (fun k => k = .int .i64 0) (fun _ => 0)
          case atStart => exact rfl
          case round =>
            cases hrel
            go_wp2
            go_ret
            exact ⟨rfl, hb2.out⟩
theorem infoNInts : (Tryz.prog.info? 131).map (fun i => (i.zero, i.size, i.bytes)) = some (some (.slice none 0 0), 1, 24) := by kernel_rfl
set_option maxRecDepth 100000 in
theorem nilInts (w : World) : Calls Tryz.prog 42 #[.slice none 0 0] w fun e w' => e = .returned (.bool true) ∧ Below w.heap.size w w' := by
  obtain ⟨iS, hiS, hzS, hsS, hbS⟩ := info_parts infoNInts
  go_enter Tryz.func42, Tryz.ntmps42
  go_wp2
  go_loop [3] (fun k => k = .int .i64 0) (fun _ => 0)
  case atStart => exact rfl
  case round =>
    cases hrel
    go_wp2_with (at_make; refine wpList_make_full _ rfl _ _ 49 rfl w.heap.size 131 iS (.slice none 0 0) 1 Tryz.underlying49 hiS hzS hsS .i64 .i64 _ _ 0 (by rfl) (by rfl) rfl rfl (by rw [hbS]; omega) (by decide) (Nat.le_refl _) ?_; intro w2 hown2 hgrow2; have hb2 := Kept.mk (below_of_grown hgrow2); clear hown2 hgrow2)
    go_loop [6] (fun k => k = .int .i64 0) (fun _ => 0)
    case atStart => exact rfl
    case round =>
      cases hrel
      go_wp2
      go_loop [9] (fun k => k = .int .i64 0) (fun _ => 0)
      case atStart => exact rfl
      case round =>
        cases hrel
        go_wp2
        go_loop [11] (fun k => k = .int .i64 0) (fun _ => 0)
        case atStart => exact rfl
        case round =>
          cases hrel
          go_wp2
          go_loop [14] (fun k => k = .int .i64 0) (fun _ => 0)
          case atStart => exact rfl
          case round =>
            cases hrel
            go_wp2
            go_ret
            exact ⟨rfl, hb2.out⟩
theorem infoNLongs : (Tryz.prog.info? 132).map (fun i => (i.zero, i.size, i.bytes)) = some (some (.slice none 0 0), 1, 24) := by kernel_rfl
set_option maxRecDepth 100000 in
theorem nilLongs (w : World) : Calls Tryz.prog 43 #[.slice none 0 0] w fun e w' => e = .returned (.bool true) ∧ Below w.heap.size w w' := by
  obtain ⟨iS, hiS, hzS, hsS, hbS⟩ := info_parts infoNLongs
  go_enter Tryz.func43, Tryz.ntmps43
  go_wp2
  go_loop [3] (fun k => k = .int .i64 0) (fun _ => 0)
  case atStart => exact rfl
  case round =>
    cases hrel
    go_wp2_with (at_make; refine wpList_make_full _ rfl _ _ 50 rfl w.heap.size 132 iS (.slice none 0 0) 1 Tryz.underlying50 hiS hzS hsS .i64 .i64 _ _ 0 (by rfl) (by rfl) rfl rfl (by rw [hbS]; omega) (by decide) (Nat.le_refl _) ?_; intro w2 hown2 hgrow2; have hb2 := Kept.mk (below_of_grown hgrow2); clear hown2 hgrow2)
    go_loop [6] (fun k => k = .int .i64 0) (fun _ => 0)
    case atStart => exact rfl
    case round =>
      cases hrel
      go_wp2
      go_loop [9] (fun k => k = .int .i64 0) (fun _ => 0)
      case atStart => exact rfl
      case round =>
        cases hrel
        go_wp2
        go_loop [11] (fun k => k = .int .i64 0) (fun _ => 0)
        case atStart => exact rfl
        case round =>
          cases hrel
          go_wp2
          go_loop [14] (fun k => k = .int .i64 0) (fun _ => 0)
          case atStart => exact rfl
          case round =>
            cases hrel
            go_wp2
            go_ret
            exact ⟨rfl, hb2.out⟩
theorem infoNTexts : (Tryz.prog.info? 33).map (fun i => (i.zero, i.size, i.bytes)) = some (some (.slice none 0 0), 1, 24) := by kernel_rfl
set_option maxRecDepth 100000 in
theorem nilTexts (w : World) : Calls Tryz.prog 44 #[.slice none 0 0] w fun e w' => e = .returned (.bool true) ∧ Below w.heap.size w w' := by
  obtain ⟨iS, hiS, hzS, hsS, hbS⟩ := info_parts infoNTexts
  go_enter Tryz.func44, Tryz.ntmps44
  go_wp2
  go_loop [3] (fun k => k = .int .i64 0) (fun _ => 0)
  case atStart => exact rfl
  case round =>
    cases hrel
    go_wp2_with (at_make; refine wpList_make_full _ rfl _ _ 51 rfl w.heap.size 33 iS (.slice none 0 0) 1 Tryz.underlying51 hiS hzS hsS .i64 .i64 _ _ 0 (by rfl) (by rfl) rfl rfl (by rw [hbS]; omega) (by decide) (Nat.le_refl _) ?_; intro w2 hown2 hgrow2; have hb2 := Kept.mk (below_of_grown hgrow2); clear hown2 hgrow2)
    go_loop [6] (fun k => k = .int .i64 0) (fun _ => 0)
    case atStart => exact rfl
    case round =>
      cases hrel
      go_wp2
      go_loop [9] (fun k => k = .int .i64 0) (fun _ => 0)
      case atStart => exact rfl
      case round =>
        cases hrel
        go_wp2
        go_loop [11] (fun k => k = .int .i64 0) (fun _ => 0)
        case atStart => exact rfl
        case round =>
          cases hrel
          go_wp2
          go_loop [14] (fun k => k = .int .i64 0) (fun _ => 0)
          case atStart => exact rfl
          case round =>
            cases hrel
            go_wp2
            go_ret
            exact ⟨rfl, hb2.out⟩
theorem infoNBytes : (Tryz.prog.info? 72).map (fun i => (i.zero, i.size, i.bytes)) = some (some (.slice none 0 0), 1, 24) := by kernel_rfl
set_option maxRecDepth 100000 in
theorem nilBytes (w : World) : Calls Tryz.prog 45 #[.slice none 0 0] w fun e w' => e = .returned (.bool true) ∧ Below w.heap.size w w' := by
  obtain ⟨iS, hiS, hzS, hsS, hbS⟩ := info_parts infoNBytes
  go_enter Tryz.func45, Tryz.ntmps45
  go_wp2
  go_loop [3] (fun k => k = .int .i64 0) (fun _ => 0)
  case atStart => exact rfl
  case round =>
    cases hrel
    go_wp2_with (at_make; refine wpList_make_full _ rfl _ _ 52 rfl w.heap.size 72 iS (.slice none 0 0) 1 Tryz.underlying52 hiS hzS hsS .i64 .i64 _ _ 0 (by rfl) (by rfl) rfl rfl (by rw [hbS]; omega) (by decide) (Nat.le_refl _) ?_; intro w2 hown2 hgrow2; have hb2 := Kept.mk (below_of_grown hgrow2); clear hown2 hgrow2)
    go_loop [6] (fun k => k = .int .i64 0) (fun _ => 0)
    case atStart => exact rfl
    case round =>
      cases hrel
      go_wp2
      go_loop [9] (fun k => k = .int .i64 0) (fun _ => 0)
      case atStart => exact rfl
      case round =>
        cases hrel
        go_wp2
        go_loop [11] (fun k => k = .int .i64 0) (fun _ => 0)
        case atStart => exact rfl
        case round =>
          cases hrel
          go_wp2
          go_loop [14] (fun k => k = .int .i64 0) (fun _ => 0)
          case atStart => exact rfl
          case round =>
            cases hrel
            go_wp2
            go_ret
            exact ⟨rfl, hb2.out⟩
theorem infoNNodes : (Tryz.prog.info? 135).map (fun i => (i.zero, i.size, i.bytes)) = some (some (.slice none 0 0), 1, 24) := by kernel_rfl
set_option maxRecDepth 100000 in
theorem nilNodes (w : World) : Calls Tryz.prog 46 #[.slice none 0 0] w fun e w' => e = .returned (.bool true) ∧ Below w.heap.size w w' := by
  obtain ⟨iS, hiS, hzS, hsS, hbS⟩ := info_parts infoNNodes
  go_enter Tryz.func46, Tryz.ntmps46
  go_wp2
  go_loop [3] (fun k => k = .int .i64 0) (fun _ => 0)
  case atStart => exact rfl
  case round =>
    cases hrel
    go_wp2_with (at_make; refine wpList_make_full _ rfl _ _ 53 rfl w.heap.size 135 iS (.slice none 0 0) 1 Tryz.underlying53 hiS hzS hsS .i64 .i64 _ _ 0 (by rfl) (by rfl) rfl rfl (by rw [hbS]; omega) (by decide) (Nat.le_refl _) ?_; intro w2 hown2 hgrow2; have hb2 := Kept.mk (below_of_grown hgrow2); clear hown2 hgrow2)
    go_loop [6] (fun k => k = .int .i64 0) (fun _ => 0)
    case atStart => exact rfl
    case round =>
      cases hrel
      go_wp2
      go_loop [9] (fun k => k = .int .i64 0) (fun _ => 0)
      case atStart => exact rfl
      case round =>
        cases hrel
        go_wp2
        go_loop [11] (fun k => k = .int .i64 0) (fun _ => 0)
        case atStart => exact rfl
        case round =>
          cases hrel
          go_wp2
          go_loop [14] (fun k => k = .int .i64 0) (fun _ => 0)
          case atStart => exact rfl
          case round =>
            cases hrel
            go_wp2
            go_ret
            exact ⟨rfl, hb2.out⟩
theorem infoNFates : (Tryz.prog.info? 140).map (fun i => (i.zero, i.size, i.bytes)) = some (some (.slice none 0 0), 1, 24) := by kernel_rfl
set_option maxRecDepth 100000 in
theorem nilFates (w : World) : Calls Tryz.prog 47 #[.slice none 0 0] w fun e w' => e = .returned (.bool true) ∧ Below w.heap.size w w' := by
  obtain ⟨iS, hiS, hzS, hsS, hbS⟩ := info_parts infoNFates
  go_enter Tryz.func47, Tryz.ntmps47
  go_wp2
  go_loop [3] (fun k => k = .int .i64 0) (fun _ => 0)
  case atStart => exact rfl
  case round =>
    cases hrel
    go_wp2_with (at_make; refine wpList_make_full _ rfl _ _ 54 rfl w.heap.size 140 iS (.slice none 0 0) 1 Tryz.underlying54 hiS hzS hsS .i64 .i64 _ _ 0 (by rfl) (by rfl) rfl rfl (by rw [hbS]; omega) (by decide) (Nat.le_refl _) ?_; intro w2 hown2 hgrow2; have hb2 := Kept.mk (below_of_grown hgrow2); clear hown2 hgrow2)
    go_loop [6] (fun k => k = .int .i64 0) (fun _ => 0)
    case atStart => exact rfl
    case round =>
      cases hrel
      go_wp2
      go_loop [9] (fun k => k = .int .i64 0) (fun _ => 0)
      case atStart => exact rfl
      case round =>
        cases hrel
        go_wp2
        go_loop [11] (fun k => k = .int .i64 0) (fun _ => 0)
        case atStart => exact rfl
        case round =>
          cases hrel
          go_wp2
          go_loop [14] (fun k => k = .int .i64 0) (fun _ => 0)
          case atStart => exact rfl
          case round =>
            cases hrel
            go_wp2
            go_ret
            exact ⟨rfl, hb2.out⟩
theorem infoNSpans : (Tryz.prog.info? 144).map (fun i => (i.zero, i.size, i.bytes)) = some (some (.slice none 0 0), 1, 24) := by kernel_rfl
set_option maxRecDepth 100000 in
theorem nilSpans (w : World) : Calls Tryz.prog 48 #[.slice none 0 0] w fun e w' => e = .returned (.bool true) ∧ Below w.heap.size w w' := by
  obtain ⟨iS, hiS, hzS, hsS, hbS⟩ := info_parts infoNSpans
  go_enter Tryz.func48, Tryz.ntmps48
  go_wp2
  go_loop [3] (fun k => k = .int .i64 0) (fun _ => 0)
  case atStart => exact rfl
  case round =>
    cases hrel
    go_wp2_with (at_make; refine wpList_make_full _ rfl _ _ 55 rfl w.heap.size 144 iS (.slice none 0 0) 1 Tryz.underlying55 hiS hzS hsS .i64 .i64 _ _ 0 (by rfl) (by rfl) rfl rfl (by rw [hbS]; omega) (by decide) (Nat.le_refl _) ?_; intro w2 hown2 hgrow2; have hb2 := Kept.mk (below_of_grown hgrow2); clear hown2 hgrow2)
    go_loop [6] (fun k => k = .int .i64 0) (fun _ => 0)
    case atStart => exact rfl
    case round =>
      cases hrel
      go_wp2
      go_loop [9] (fun k => k = .int .i64 0) (fun _ => 0)
      case atStart => exact rfl
      case round =>
        cases hrel
        go_wp2
        go_loop [11] (fun k => k = .int .i64 0) (fun _ => 0)
        case atStart => exact rfl
        case round =>
          cases hrel
          go_wp2
          go_loop [14] (fun k => k = .int .i64 0) (fun _ => 0)
          case atStart => exact rfl
          case round =>
            cases hrel
            go_wp2
            go_ret
            exact ⟨rfl, hb2.out⟩
theorem infoNDirties : (Tryz.prog.info? 149).map (fun i => (i.zero, i.size, i.bytes)) = some (some (.slice none 0 0), 1, 24) := by kernel_rfl
set_option maxRecDepth 100000 in
theorem nilDirties (w : World) : Calls Tryz.prog 49 #[.slice none 0 0] w fun e w' => e = .returned (.bool true) ∧ Below w.heap.size w w' := by
  obtain ⟨iS, hiS, hzS, hsS, hbS⟩ := info_parts infoNDirties
  go_enter Tryz.func49, Tryz.ntmps49
  go_wp2
  go_loop [3] (fun k => k = .int .i64 0) (fun _ => 0)
  case atStart => exact rfl
  case round =>
    cases hrel
    go_wp2_with (at_make; refine wpList_make_full _ rfl _ _ 56 rfl w.heap.size 149 iS (.slice none 0 0) 1 Tryz.underlying56 hiS hzS hsS .i64 .i64 _ _ 0 (by rfl) (by rfl) rfl rfl (by rw [hbS]; omega) (by decide) (Nat.le_refl _) ?_; intro w2 hown2 hgrow2; have hb2 := Kept.mk (below_of_grown hgrow2); clear hown2 hgrow2)
    go_loop [6] (fun k => k = .int .i64 0) (fun _ => 0)
    case atStart => exact rfl
    case round =>
      cases hrel
      go_wp2
      go_loop [9] (fun k => k = .int .i64 0) (fun _ => 0)
      case atStart => exact rfl
      case round =>
        cases hrel
        go_wp2
        go_loop [11] (fun k => k = .int .i64 0) (fun _ => 0)
        case atStart => exact rfl
        case round =>
          cases hrel
          go_wp2
          go_loop [14] (fun k => k = .int .i64 0) (fun _ => 0)
          case atStart => exact rfl
          case round =>
            cases hrel
            go_wp2
            go_ret
            exact ⟨rfl, hb2.out⟩
theorem infoNRecords : (Tryz.prog.info? 153).map (fun i => (i.zero, i.size, i.bytes)) = some (some (.slice none 0 0), 1, 24) := by kernel_rfl
set_option maxRecDepth 100000 in
theorem nilRecords (w : World) : Calls Tryz.prog 50 #[.slice none 0 0] w fun e w' => e = .returned (.bool true) ∧ Below w.heap.size w w' := by
  obtain ⟨iS, hiS, hzS, hsS, hbS⟩ := info_parts infoNRecords
  go_enter Tryz.func50, Tryz.ntmps50
  go_wp2
  go_loop [3] (fun k => k = .int .i64 0) (fun _ => 0)
  case atStart => exact rfl
  case round =>
    cases hrel
    go_wp2_with (at_make; refine wpList_make_full _ rfl _ _ 57 rfl w.heap.size 153 iS (.slice none 0 0) 1 Tryz.underlying57 hiS hzS hsS .i64 .i64 _ _ 0 (by rfl) (by rfl) rfl rfl (by rw [hbS]; omega) (by decide) (Nat.le_refl _) ?_; intro w2 hown2 hgrow2; have hb2 := Kept.mk (below_of_grown hgrow2); clear hown2 hgrow2)
    go_loop [6] (fun k => k = .int .i64 0) (fun _ => 0)
    case atStart => exact rfl
    case round =>
      cases hrel
      go_wp2
      go_loop [9] (fun k => k = .int .i64 0) (fun _ => 0)
      case atStart => exact rfl
      case round =>
        cases hrel
        go_wp2
        go_loop [11] (fun k => k = .int .i64 0) (fun _ => 0)
        case atStart => exact rfl
        case round =>
          cases hrel
          go_wp2
          go_loop [14] (fun k => k = .int .i64 0) (fun _ => 0)
          case atStart => exact rfl
          case round =>
            cases hrel
            go_wp2
            go_ret
            exact ⟨rfl, hb2.out⟩
theorem infoNCells : (Tryz.prog.info? 159).map (fun i => (i.zero, i.size, i.bytes)) = some (some (.slice none 0 0), 1, 24) := by kernel_rfl
set_option maxRecDepth 100000 in
theorem nilCells (w : World) : Calls Tryz.prog 51 #[.slice none 0 0] w fun e w' => e = .returned (.bool true) ∧ Below w.heap.size w w' := by
  obtain ⟨iS, hiS, hzS, hsS, hbS⟩ := info_parts infoNCells
  go_enter Tryz.func51, Tryz.ntmps51
  go_wp2
  go_loop [3] (fun k => k = .int .i64 0) (fun _ => 0)
  case atStart => exact rfl
  case round =>
    cases hrel
    go_wp2_with (at_make; refine wpList_make_full _ rfl _ _ 58 rfl w.heap.size 159 iS (.slice none 0 0) 1 Tryz.underlying58 hiS hzS hsS .i64 .i64 _ _ 0 (by rfl) (by rfl) rfl rfl (by rw [hbS]; omega) (by decide) (Nat.le_refl _) ?_; intro w2 hown2 hgrow2; have hb2 := Kept.mk (below_of_grown hgrow2); clear hown2 hgrow2)
    go_loop [6] (fun k => k = .int .i64 0) (fun _ => 0)
    case atStart => exact rfl
    case round =>
      cases hrel
      go_wp2
      go_loop [9] (fun k => k = .int .i64 0) (fun _ => 0)
      case atStart => exact rfl
      case round =>
        cases hrel
        go_wp2
        go_loop [11] (fun k => k = .int .i64 0) (fun _ => 0)
        case atStart => exact rfl
        case round =>
          cases hrel
          go_wp2
          go_loop [14] (fun k => k = .int .i64 0) (fun _ => 0)
          case atStart => exact rfl
          case round =>
            cases hrel
            go_wp2
            go_ret
            exact ⟨rfl, hb2.out⟩
theorem infoNHelds : (Tryz.prog.info? 164).map (fun i => (i.zero, i.size, i.bytes)) = some (some (.slice none 0 0), 1, 24) := by kernel_rfl
set_option maxRecDepth 100000 in
theorem nilHelds (w : World) : Calls Tryz.prog 52 #[.slice none 0 0] w fun e w' => e = .returned (.bool true) ∧ Below w.heap.size w w' := by
  obtain ⟨iS, hiS, hzS, hsS, hbS⟩ := info_parts infoNHelds
  go_enter Tryz.func52, Tryz.ntmps52
  go_wp2
  go_loop [3] (fun k => k = .int .i64 0) (fun _ => 0)
  case atStart => exact rfl
  case round =>
    cases hrel
    go_wp2_with (at_make; refine wpList_make_full _ rfl _ _ 59 rfl w.heap.size 164 iS (.slice none 0 0) 1 Tryz.underlying59 hiS hzS hsS .i64 .i64 _ _ 0 (by rfl) (by rfl) rfl rfl (by rw [hbS]; omega) (by decide) (Nat.le_refl _) ?_; intro w2 hown2 hgrow2; have hb2 := Kept.mk (below_of_grown hgrow2); clear hown2 hgrow2)
    go_loop [6] (fun k => k = .int .i64 0) (fun _ => 0)
    case atStart => exact rfl
    case round =>
      cases hrel
      go_wp2
      go_loop [9] (fun k => k = .int .i64 0) (fun _ => 0)
      case atStart => exact rfl
      case round =>
        cases hrel
        go_wp2
        go_loop [11] (fun k => k = .int .i64 0) (fun _ => 0)
        case atStart => exact rfl
        case round =>
          cases hrel
          go_wp2
          go_loop [14] (fun k => k = .int .i64 0) (fun _ => 0)
          case atStart => exact rfl
          case round =>
            cases hrel
            go_wp2
            go_ret
            exact ⟨rfl, hb2.out⟩
theorem infoNExprs : (Tryz.prog.info? 170).map (fun i => (i.zero, i.size, i.bytes)) = some (some (.slice none 0 0), 1, 24) := by kernel_rfl
set_option maxRecDepth 100000 in
theorem nilExprs (w : World) : Calls Tryz.prog 54 #[.slice none 0 0] w fun e w' => e = .returned (.bool true) ∧ Below w.heap.size w w' := by
  obtain ⟨iS, hiS, hzS, hsS, hbS⟩ := info_parts infoNExprs
  go_enter Tryz.func54, Tryz.ntmps54
  go_wp2
  go_loop [3] (fun k => k = .int .i64 0) (fun _ => 0)
  case atStart => exact rfl
  case round =>
    cases hrel
    go_wp2_with (at_make; refine wpList_make_full _ rfl _ _ 60 rfl w.heap.size 170 iS (.slice none 0 0) 1 Tryz.underlying60 hiS hzS hsS .i64 .i64 _ _ 0 (by rfl) (by rfl) rfl rfl (by rw [hbS]; omega) (by decide) (Nat.le_refl _) ?_; intro w2 hown2 hgrow2; have hb2 := Kept.mk (below_of_grown hgrow2); clear hown2 hgrow2)
    go_loop [6] (fun k => k = .int .i64 0) (fun _ => 0)
    case atStart => exact rfl
    case round =>
      cases hrel
      go_wp2
      go_loop [9] (fun k => k = .int .i64 0) (fun _ => 0)
      case atStart => exact rfl
      case round =>
        cases hrel
        go_wp2
        go_loop [11] (fun k => k = .int .i64 0) (fun _ => 0)
        case atStart => exact rfl
        case round =>
          cases hrel
          go_wp2
          go_loop [14] (fun k => k = .int .i64 0) (fun _ => 0)
          case atStart => exact rfl
          case round =>
            cases hrel
            go_wp2
            go_ret
            exact ⟨rfl, hb2.out⟩
theorem infoNItems : (Tryz.prog.info? 178).map (fun i => (i.zero, i.size, i.bytes)) = some (some (.slice none 0 0), 1, 24) := by kernel_rfl
set_option maxRecDepth 100000 in
theorem nilItems (w : World) : Calls Tryz.prog 55 #[.slice none 0 0] w fun e w' => e = .returned (.bool true) ∧ Below w.heap.size w w' := by
  obtain ⟨iS, hiS, hzS, hsS, hbS⟩ := info_parts infoNItems
  go_enter Tryz.func55, Tryz.ntmps55
  go_wp2
  go_loop [3] (fun k => k = .int .i64 0) (fun _ => 0)
  case atStart => exact rfl
  case round =>
    cases hrel
    go_wp2_with (at_make; refine wpList_make_full _ rfl _ _ 61 rfl w.heap.size 178 iS (.slice none 0 0) 1 Tryz.underlying61 hiS hzS hsS .i64 .i64 _ _ 0 (by rfl) (by rfl) rfl rfl (by rw [hbS]; omega) (by decide) (Nat.le_refl _) ?_; intro w2 hown2 hgrow2; have hb2 := Kept.mk (below_of_grown hgrow2); clear hown2 hgrow2)
    go_loop [6] (fun k => k = .int .i64 0) (fun _ => 0)
    case atStart => exact rfl
    case round =>
      cases hrel
      go_wp2
      go_loop [9] (fun k => k = .int .i64 0) (fun _ => 0)
      case atStart => exact rfl
      case round =>
        cases hrel
        go_wp2
        go_loop [11] (fun k => k = .int .i64 0) (fun _ => 0)
        case atStart => exact rfl
        case round =>
          cases hrel
          go_wp2
          go_loop [14] (fun k => k = .int .i64 0) (fun _ => 0)
          case atStart => exact rfl
          case round =>
            cases hrel
            go_wp2
            go_ret
            exact ⟨rfl, hb2.out⟩
theorem infoNShowns : (Tryz.prog.info? 183).map (fun i => (i.zero, i.size, i.bytes)) = some (some (.slice none 0 0), 1, 24) := by kernel_rfl
set_option maxRecDepth 100000 in
theorem nilShowns (w : World) : Calls Tryz.prog 56 #[.slice none 0 0] w fun e w' => e = .returned (.bool true) ∧ Below w.heap.size w w' := by
  obtain ⟨iS, hiS, hzS, hsS, hbS⟩ := info_parts infoNShowns
  go_enter Tryz.func56, Tryz.ntmps56
  go_wp2
  go_loop [3] (fun k => k = .int .i64 0) (fun _ => 0)
  case atStart => exact rfl
  case round =>
    cases hrel
    go_wp2_with (at_make; refine wpList_make_full _ rfl _ _ 62 rfl w.heap.size 183 iS (.slice none 0 0) 1 Tryz.underlying62 hiS hzS hsS .i64 .i64 _ _ 0 (by rfl) (by rfl) rfl rfl (by rw [hbS]; omega) (by decide) (Nat.le_refl _) ?_; intro w2 hown2 hgrow2; have hb2 := Kept.mk (below_of_grown hgrow2); clear hown2 hgrow2)
    go_loop [6] (fun k => k = .int .i64 0) (fun _ => 0)
    case atStart => exact rfl
    case round =>
      cases hrel
      go_wp2
      go_loop [9] (fun k => k = .int .i64 0) (fun _ => 0)
      case atStart => exact rfl
      case round =>
        cases hrel
        go_wp2
        go_loop [11] (fun k => k = .int .i64 0) (fun _ => 0)
        case atStart => exact rfl
        case round =>
          cases hrel
          go_wp2
          go_loop [14] (fun k => k = .int .i64 0) (fun _ => 0)
          case atStart => exact rfl
          case round =>
            cases hrel
            go_wp2
            go_ret
            exact ⟨rfl, hb2.out⟩
theorem infoNParts : (Tryz.prog.info? 187).map (fun i => (i.zero, i.size, i.bytes)) = some (some (.slice none 0 0), 1, 24) := by kernel_rfl
set_option maxRecDepth 100000 in
theorem nilParts (w : World) : Calls Tryz.prog 57 #[.slice none 0 0] w fun e w' => e = .returned (.bool true) ∧ Below w.heap.size w w' := by
  obtain ⟨iS, hiS, hzS, hsS, hbS⟩ := info_parts infoNParts
  go_enter Tryz.func57, Tryz.ntmps57
  go_wp2
  go_loop [3] (fun k => k = .int .i64 0) (fun _ => 0)
  case atStart => exact rfl
  case round =>
    cases hrel
    go_wp2_with (at_make; refine wpList_make_full _ rfl _ _ 63 rfl w.heap.size 187 iS (.slice none 0 0) 1 Tryz.underlying63 hiS hzS hsS .i64 .i64 _ _ 0 (by rfl) (by rfl) rfl rfl (by rw [hbS]; omega) (by decide) (Nat.le_refl _) ?_; intro w2 hown2 hgrow2; have hb2 := Kept.mk (below_of_grown hgrow2); clear hown2 hgrow2)
    go_loop [6] (fun k => k = .int .i64 0) (fun _ => 0)
    case atStart => exact rfl
    case round =>
      cases hrel
      go_wp2
      go_loop [9] (fun k => k = .int .i64 0) (fun _ => 0)
      case atStart => exact rfl
      case round =>
        cases hrel
        go_wp2
        go_loop [11] (fun k => k = .int .i64 0) (fun _ => 0)
        case atStart => exact rfl
        case round =>
          cases hrel
          go_wp2
          go_loop [14] (fun k => k = .int .i64 0) (fun _ => 0)
          case atStart => exact rfl
          case round =>
            cases hrel
            go_wp2
            go_ret
            exact ⟨rfl, hb2.out⟩
theorem infoNCommands : (Tryz.prog.info? 193).map (fun i => (i.zero, i.size, i.bytes)) = some (some (.slice none 0 0), 1, 24) := by kernel_rfl
set_option maxRecDepth 100000 in
theorem nilCommands (w : World) : Calls Tryz.prog 58 #[.slice none 0 0] w fun e w' => e = .returned (.bool true) ∧ Below w.heap.size w w' := by
  obtain ⟨iS, hiS, hzS, hsS, hbS⟩ := info_parts infoNCommands
  go_enter Tryz.func58, Tryz.ntmps58
  go_wp2
  go_loop [3] (fun k => k = .int .i64 0) (fun _ => 0)
  case atStart => exact rfl
  case round =>
    cases hrel
    go_wp2_with (at_make; refine wpList_make_full _ rfl _ _ 64 rfl w.heap.size 193 iS (.slice none 0 0) 1 Tryz.underlying64 hiS hzS hsS .i64 .i64 _ _ 0 (by rfl) (by rfl) rfl rfl (by rw [hbS]; omega) (by decide) (Nat.le_refl _) ?_; intro w2 hown2 hgrow2; have hb2 := Kept.mk (below_of_grown hgrow2); clear hown2 hgrow2)
    go_loop [6] (fun k => k = .int .i64 0) (fun _ => 0)
    case atStart => exact rfl
    case round =>
      cases hrel
      go_wp2
      go_loop [9] (fun k => k = .int .i64 0) (fun _ => 0)
      case atStart => exact rfl
      case round =>
        cases hrel
        go_wp2
        go_loop [11] (fun k => k = .int .i64 0) (fun _ => 0)
        case atStart => exact rfl
        case round =>
          cases hrel
          go_wp2
          go_loop [14] (fun k => k = .int .i64 0) (fun _ => 0)
          case atStart => exact rfl
          case round =>
            cases hrel
            go_wp2
            go_ret
            exact ⟨rfl, hb2.out⟩
end Go.Proofs.YtfamljigcffngaaGreatDoor.Flt
