/- The walks over the kit's flat.. at no list at all. -/
import Derived.Test.YtokphfpjgmmklaaDoorFlatKit
import Derived.Test.YtokphfpjgmmklaaDoorKitBytes
import Derived.OwnWalk
namespace Go.Proofs.YtokphfpjgmmklaaDoor.Flt
open Go Go.RowKit Go.Proofs.YtokphfpjgmmklaaDoor.Kb

theorem infoNWords : (Tryd.prog.info? 104).map (fun i => (i.zero, i.size, i.bytes)) = some (some (.slice none 0 0), 1, 24) := by kernel_rfl
set_option maxRecDepth 100000 in
theorem nilWords (w : World) : Calls Tryd.prog 39 #[.slice none 0 0] w fun e w' => e = .returned (.bool true) ∧ Below w.heap.size w w' := by
  obtain ⟨iS, hiS, hzS, hsS, hbS⟩ := info_parts infoNWords
  go_enter Tryd.func39, Tryd.ntmps39
  go_wp2
  go_loop [3] (fun k => k = .int .i64 0) (fun _ => 0)
  case atStart => exact rfl
  case round =>
    cases hrel
    go_wp2_with (at_make; refine wpList_make_full _ rfl _ _ 54 rfl w.heap.size 104 iS (.slice none 0 0) 1 Tryd.underlying54 hiS hzS hsS .i64 .i64 _ _ 0 (by rfl) (by rfl) rfl rfl (by rw [hbS]; omega) (by decide) (Nat.le_refl _) ?_; intro w2 hown2 hgrow2; have hb2 := Kept.mk (below_of_grown hgrow2); clear hown2 hgrow2)
    go_loop [6] (fun k => k = .int .i64 0) (fun _ => 0)
    case atStart => exact rfl
    case round =>
      cases hrel
      go_wp2
      go_loop [9] (fun k => k = .int .i64 0) (fun _ => 0)
      case atStart => exact rfl
      case round =>
        cases hrel
        go_wp2
        go_loop [11] (fun k => k = .int .i64 0) (fun _ => 0)
        case atStart => exact rfl
        case round =>
          cases hrel
          go_wp2
          go_loop [14] (fun k => k = .int .i64 0) (fun _ => 0)
          case atStart => exact rfl
          case round =>
            cases hrel
            go_wp2
            go_ret
            exact ⟨rfl, hb2.out⟩
theorem infoNInts : (Tryd.prog.info? 105).map (fun i => (i.zero, i.size, i.bytes)) = some (some (.slice none 0 0), 1, 24) := by kernel_rfl
set_option maxRecDepth 100000 in
theorem nilInts (w : World) : Calls Tryd.prog 40 #[.slice none 0 0] w fun e w' => e = .returned (.bool true) ∧ Below w.heap.size w w' := by
  obtain ⟨iS, hiS, hzS, hsS, hbS⟩ := info_parts infoNInts
  go_enter Tryd.func40, Tryd.ntmps40
  go_wp2
  go_loop [3] (fun k => k = .int .i64 0) (fun _ => 0)
  case atStart => exact rfl
  case round =>
    cases hrel
    go_wp2_with (at_make; refine wpList_make_full _ rfl _ _ 55 rfl w.heap.size 105 iS (.slice none 0 0) 1 Tryd.underlying55 hiS hzS hsS .i64 .i64 _ _ 0 (by rfl) (by rfl) rfl rfl (by rw [hbS]; omega) (by decide) (Nat.le_refl _) ?_; intro w2 hown2 hgrow2; have hb2 := Kept.mk (below_of_grown hgrow2); clear hown2 hgrow2)
    go_loop [6] (fun k => k = .int .i64 0) (fun _ => 0)
    case atStart => exact rfl
    case round =>
      cases hrel
      go_wp2
      go_loop [9] (fun k => k = .int .i64 0) (fun _ => 0)
      case atStart => exact rfl
      case round =>
        cases hrel
        go_wp2
        go_loop [11] (fun k => k = .int .i64 0) (fun _ => 0)
        case atStart => exact rfl
        case round =>
          cases hrel
          go_wp2
          go_loop [14] (fun k => k = .int .i64 0) (fun _ => 0)
          case atStart => exact rfl
          case round =>
            cases hrel
            go_wp2
            go_ret
            exact ⟨rfl, hb2.out⟩
theorem infoNLongs : (Tryd.prog.info? 39).map (fun i => (i.zero, i.size, i.bytes)) = some (some (.slice none 0 0), 1, 24) := by kernel_rfl
set_option maxRecDepth 100000 in
theorem nilLongs (w : World) : Calls Tryd.prog 41 #[.slice none 0 0] w fun e w' => e = .returned (.bool true) ∧ Below w.heap.size w w' := by
  obtain ⟨iS, hiS, hzS, hsS, hbS⟩ := info_parts infoNLongs
  go_enter Tryd.func41, Tryd.ntmps41
  go_wp2
  go_loop [3] (fun k => k = .int .i64 0) (fun _ => 0)
  case atStart => exact rfl
  case round =>
    cases hrel
    go_wp2_with (at_make; refine wpList_make_full _ rfl _ _ 56 rfl w.heap.size 39 iS (.slice none 0 0) 1 Tryd.underlying56 hiS hzS hsS .i64 .i64 _ _ 0 (by rfl) (by rfl) rfl rfl (by rw [hbS]; omega) (by decide) (Nat.le_refl _) ?_; intro w2 hown2 hgrow2; have hb2 := Kept.mk (below_of_grown hgrow2); clear hown2 hgrow2)
    go_loop [6] (fun k => k = .int .i64 0) (fun _ => 0)
    case atStart => exact rfl
    case round =>
      cases hrel
      go_wp2
      go_loop [9] (fun k => k = .int .i64 0) (fun _ => 0)
      case atStart => exact rfl
      case round =>
        cases hrel
        go_wp2
        go_loop [11] (fun k => k = .int .i64 0) (fun _ => 0)
        case atStart => exact rfl
        case round =>
          cases hrel
          go_wp2
          go_loop [14] (fun k => k = .int .i64 0) (fun _ => 0)
          case atStart => exact rfl
          case round =>
            cases hrel
            go_wp2
            go_ret
            exact ⟨rfl, hb2.out⟩
theorem infoNTexts : (Tryd.prog.info? 40).map (fun i => (i.zero, i.size, i.bytes)) = some (some (.slice none 0 0), 1, 24) := by kernel_rfl
set_option maxRecDepth 100000 in
theorem nilTexts (w : World) : Calls Tryd.prog 42 #[.slice none 0 0] w fun e w' => e = .returned (.bool true) ∧ Below w.heap.size w w' := by
  obtain ⟨iS, hiS, hzS, hsS, hbS⟩ := info_parts infoNTexts
  go_enter Tryd.func42, Tryd.ntmps42
  go_wp2
  go_loop [3] (fun k => k = .int .i64 0) (fun _ => 0)
  case atStart => exact rfl
  case round =>
    cases hrel
    go_wp2_with (at_make; refine wpList_make_full _ rfl _ _ 57 rfl w.heap.size 40 iS (.slice none 0 0) 1 Tryd.underlying57 hiS hzS hsS .i64 .i64 _ _ 0 (by rfl) (by rfl) rfl rfl (by rw [hbS]; omega) (by decide) (Nat.le_refl _) ?_; intro w2 hown2 hgrow2; have hb2 := Kept.mk (below_of_grown hgrow2); clear hown2 hgrow2)
    go_loop [6] (fun k => k = .int .i64 0) (fun _ => 0)
    case atStart => exact rfl
    case round =>
      cases hrel
      go_wp2
      go_loop [9] (fun k => k = .int .i64 0) (fun _ => 0)
      case atStart => exact rfl
      case round =>
        cases hrel
        go_wp2
        go_loop [11] (fun k => k = .int .i64 0) (fun _ => 0)
        case atStart => exact rfl
        case round =>
          cases hrel
          go_wp2
          go_loop [14] (fun k => k = .int .i64 0) (fun _ => 0)
          case atStart => exact rfl
          case round =>
            cases hrel
            go_wp2
            go_ret
            exact ⟨rfl, hb2.out⟩
theorem infoNNodes : (Tryd.prog.info? 107).map (fun i => (i.zero, i.size, i.bytes)) = some (some (.slice none 0 0), 1, 24) := by kernel_rfl
set_option maxRecDepth 100000 in
theorem nilNodes (w : World) : Calls Tryd.prog 44 #[.slice none 0 0] w fun e w' => e = .returned (.bool true) ∧ Below w.heap.size w w' := by
  obtain ⟨iS, hiS, hzS, hsS, hbS⟩ := info_parts infoNNodes
  go_enter Tryd.func44, Tryd.ntmps44
  go_wp2
  go_loop [3] (fun k => k = .int .i64 0) (fun _ => 0)
  case atStart => exact rfl
  case round =>
    cases hrel
    go_wp2_with (at_make; refine wpList_make_full _ rfl _ _ 58 rfl w.heap.size 107 iS (.slice none 0 0) 1 Tryd.underlying58 hiS hzS hsS .i64 .i64 _ _ 0 (by rfl) (by rfl) rfl rfl (by rw [hbS]; omega) (by decide) (Nat.le_refl _) ?_; intro w2 hown2 hgrow2; have hb2 := Kept.mk (below_of_grown hgrow2); clear hown2 hgrow2)
    go_loop [6] (fun k => k = .int .i64 0) (fun _ => 0)
    case atStart => exact rfl
    case round =>
      cases hrel
      go_wp2
      go_loop [9] (fun k => k = .int .i64 0) (fun _ => 0)
      case atStart => exact rfl
      case round =>
        cases hrel
        go_wp2
        go_loop [11] (fun k => k = .int .i64 0) (fun _ => 0)
        case atStart => exact rfl
        case round =>
          cases hrel
          go_wp2
          go_loop [14] (fun k => k = .int .i64 0) (fun _ => 0)
          case atStart => exact rfl
          case round =>
            cases hrel
            go_wp2
            go_ret
            exact ⟨rfl, hb2.out⟩
theorem infoNFates : (Tryd.prog.info? 112).map (fun i => (i.zero, i.size, i.bytes)) = some (some (.slice none 0 0), 1, 24) := by kernel_rfl
set_option maxRecDepth 100000 in
theorem nilFates (w : World) : Calls Tryd.prog 45 #[.slice none 0 0] w fun e w' => e = .returned (.bool true) ∧ Below w.heap.size w w' := by
  obtain ⟨iS, hiS, hzS, hsS, hbS⟩ := info_parts infoNFates
  go_enter Tryd.func45, Tryd.ntmps45
  go_wp2
  go_loop [3] (fun k => k = .int .i64 0) (fun _ => 0)
  case atStart => exact rfl
  case round =>
    cases hrel
    go_wp2_with (at_make; refine wpList_make_full _ rfl _ _ 59 rfl w.heap.size 112 iS (.slice none 0 0) 1 Tryd.underlying59 hiS hzS hsS .i64 .i64 _ _ 0 (by rfl) (by rfl) rfl rfl (by rw [hbS]; omega) (by decide) (Nat.le_refl _) ?_; intro w2 hown2 hgrow2; have hb2 := Kept.mk (below_of_grown hgrow2); clear hown2 hgrow2)
    go_loop [6] (fun k => k = .int .i64 0) (fun _ => 0)
    case atStart => exact rfl
    case round =>
      cases hrel
      go_wp2
      go_loop [9] (fun k => k = .int .i64 0) (fun _ => 0)
      case atStart => exact rfl
      case round =>
        cases hrel
        go_wp2
        go_loop [11] (fun k => k = .int .i64 0) (fun _ => 0)
        case atStart => exact rfl
        case round =>
          cases hrel
          go_wp2
          go_loop [14] (fun k => k = .int .i64 0) (fun _ => 0)
          case atStart => exact rfl
          case round =>
            cases hrel
            go_wp2
            go_ret
            exact ⟨rfl, hb2.out⟩
theorem infoNSpans : (Tryd.prog.info? 116).map (fun i => (i.zero, i.size, i.bytes)) = some (some (.slice none 0 0), 1, 24) := by kernel_rfl
set_option maxRecDepth 100000 in
theorem nilSpans (w : World) : Calls Tryd.prog 46 #[.slice none 0 0] w fun e w' => e = .returned (.bool true) ∧ Below w.heap.size w w' := by
  obtain ⟨iS, hiS, hzS, hsS, hbS⟩ := info_parts infoNSpans
  go_enter Tryd.func46, Tryd.ntmps46
  go_wp2
  go_loop [3] (fun k => k = .int .i64 0) (fun _ => 0)
  case atStart => exact rfl
  case round =>
    cases hrel
    go_wp2_with (at_make; refine wpList_make_full _ rfl _ _ 60 rfl w.heap.size 116 iS (.slice none 0 0) 1 Tryd.underlying60 hiS hzS hsS .i64 .i64 _ _ 0 (by rfl) (by rfl) rfl rfl (by rw [hbS]; omega) (by decide) (Nat.le_refl _) ?_; intro w2 hown2 hgrow2; have hb2 := Kept.mk (below_of_grown hgrow2); clear hown2 hgrow2)
    go_loop [6] (fun k => k = .int .i64 0) (fun _ => 0)
    case atStart => exact rfl
    case round =>
      cases hrel
      go_wp2
      go_loop [9] (fun k => k = .int .i64 0) (fun _ => 0)
      case atStart => exact rfl
      case round =>
        cases hrel
        go_wp2
        go_loop [11] (fun k => k = .int .i64 0) (fun _ => 0)
        case atStart => exact rfl
        case round =>
          cases hrel
          go_wp2
          go_loop [14] (fun k => k = .int .i64 0) (fun _ => 0)
          case atStart => exact rfl
          case round =>
            cases hrel
            go_wp2
            go_ret
            exact ⟨rfl, hb2.out⟩
theorem infoNDirties : (Tryd.prog.info? 121).map (fun i => (i.zero, i.size, i.bytes)) = some (some (.slice none 0 0), 1, 24) := by kernel_rfl
set_option maxRecDepth 100000 in
theorem nilDirties (w : World) : Calls Tryd.prog 47 #[.slice none 0 0] w fun e w' => e = .returned (.bool true) ∧ Below w.heap.size w w' := by
  obtain ⟨iS, hiS, hzS, hsS, hbS⟩ := info_parts infoNDirties
  go_enter Tryd.func47, Tryd.ntmps47
  go_wp2
  go_loop [3] (fun k => k = .int .i64 0) (fun _ => 0)
  case atStart => exact rfl
  case round =>
    cases hrel
    go_wp2_with (at_make; refine wpList_make_full _ rfl _ _ 61 rfl w.heap.size 121 iS (.slice none 0 0) 1 Tryd.underlying61 hiS hzS hsS .i64 .i64 _ _ 0 (by rfl) (by rfl) rfl rfl (by rw [hbS]; omega) (by decide) (Nat.le_refl _) ?_; intro w2 hown2 hgrow2; have hb2 := Kept.mk (below_of_grown hgrow2); clear hown2 hgrow2)
    go_loop [6] (fun k => k = .int .i64 0) (fun _ => 0)
    case atStart => exact rfl
    case round =>
      cases hrel
      go_wp2
      go_loop [9] (fun k => k = .int .i64 0) (fun _ => 0)
      case atStart => exact rfl
      case round =>
        cases hrel
        go_wp2
        go_loop [11] (fun k => k = .int .i64 0) (fun _ => 0)
        case atStart => exact rfl
        case round =>
          cases hrel
          go_wp2
          go_loop [14] (fun k => k = .int .i64 0) (fun _ => 0)
          case atStart => exact rfl
          case round =>
            cases hrel
            go_wp2
            go_ret
            exact ⟨rfl, hb2.out⟩
theorem infoNRecords : (Tryd.prog.info? 125).map (fun i => (i.zero, i.size, i.bytes)) = some (some (.slice none 0 0), 1, 24) := by kernel_rfl
set_option maxRecDepth 100000 in
theorem nilRecords (w : World) : Calls Tryd.prog 48 #[.slice none 0 0] w fun e w' => e = .returned (.bool true) ∧ Below w.heap.size w w' := by
  obtain ⟨iS, hiS, hzS, hsS, hbS⟩ := info_parts infoNRecords
  go_enter Tryd.func48, Tryd.ntmps48
  go_wp2
  go_loop [3] (fun k => k = .int .i64 0) (fun _ => 0)
  case atStart => exact rfl
  case round =>
    cases hrel
    go_wp2_with (at_make; refine wpList_make_full _ rfl _ _ 62 rfl w.heap.size 125 iS (.slice none 0 0) 1 Tryd.underlying62 hiS hzS hsS .i64 .i64 _ _ 0 (by rfl) (by rfl) rfl rfl (by rw [hbS]; omega) (by decide) (Nat.le_refl _) ?_; intro w2 hown2 hgrow2; have hb2 := Kept.mk (below_of_grown hgrow2); clear hown2 hgrow2)
    go_loop [6] (fun k => k = .int .i64 0) (fun _ => 0)
    case atStart => exact rfl
    case round =>
      cases hrel
      go_wp2
      go_loop [9] (fun k => k = .int .i64 0) (fun _ => 0)
      case atStart => exact rfl
      case round =>
        cases hrel
        go_wp2
        go_loop [11] (fun k => k = .int .i64 0) (fun _ => 0)
        case atStart => exact rfl
        case round =>
          cases hrel
          go_wp2
          go_loop [14] (fun k => k = .int .i64 0) (fun _ => 0)
          case atStart => exact rfl
          case round =>
            cases hrel
            go_wp2
            go_ret
            exact ⟨rfl, hb2.out⟩
theorem infoNCells : (Tryd.prog.info? 131).map (fun i => (i.zero, i.size, i.bytes)) = some (some (.slice none 0 0), 1, 24) := by kernel_rfl
set_option maxRecDepth 100000 in
theorem nilCells (w : World) : Calls Tryd.prog 49 #[.slice none 0 0] w fun e w' => e = .returned (.bool true) ∧ Below w.heap.size w w' := by
  obtain ⟨iS, hiS, hzS, hsS, hbS⟩ := info_parts infoNCells
  go_enter Tryd.func49, Tryd.ntmps49
  go_wp2
  go_loop [3] (fun k => k = .int .i64 0) (fun _ => 0)
  case atStart => exact rfl
  case round =>
    cases hrel
    go_wp2_with (at_make; refine wpList_make_full _ rfl _ _ 63 rfl w.heap.size 131 iS (.slice none 0 0) 1 Tryd.underlying63 hiS hzS hsS .i64 .i64 _ _ 0 (by rfl) (by rfl) rfl rfl (by rw [hbS]; omega) (by decide) (Nat.le_refl _) ?_; intro w2 hown2 hgrow2; have hb2 := Kept.mk (below_of_grown hgrow2); clear hown2 hgrow2)
    go_loop [6] (fun k => k = .int .i64 0) (fun _ => 0)
    case atStart => exact rfl
    case round =>
      cases hrel
      go_wp2
      go_loop [9] (fun k => k = .int .i64 0) (fun _ => 0)
      case atStart => exact rfl
      case round =>
        cases hrel
        go_wp2
        go_loop [11] (fun k => k = .int .i64 0) (fun _ => 0)
        case atStart => exact rfl
        case round =>
          cases hrel
          go_wp2
          go_loop [14] (fun k => k = .int .i64 0) (fun _ => 0)
          case atStart => exact rfl
          case round =>
            cases hrel
            go_wp2
            go_ret
            exact ⟨rfl, hb2.out⟩
theorem infoNHelds : (Tryd.prog.info? 136).map (fun i => (i.zero, i.size, i.bytes)) = some (some (.slice none 0 0), 1, 24) := by kernel_rfl
set_option maxRecDepth 100000 in
theorem nilHelds (w : World) : Calls Tryd.prog 50 #[.slice none 0 0] w fun e w' => e = .returned (.bool true) ∧ Below w.heap.size w w' := by
  obtain ⟨iS, hiS, hzS, hsS, hbS⟩ := info_parts infoNHelds
  go_enter Tryd.func50, Tryd.ntmps50
  go_wp2
  go_loop [3] (fun k => k = .int .i64 0) (fun _ => 0)
  case atStart => exact rfl
  case round =>
    cases hrel
    go_wp2_with (at_make; refine wpList_make_full _ rfl _ _ 64 rfl w.heap.size 136 iS (.slice none 0 0) 1 Tryd.underlying64 hiS hzS hsS .i64 .i64 _ _ 0 (by rfl) (by rfl) rfl rfl (by rw [hbS]; omega) (by decide) (Nat.le_refl _) ?_; intro w2 hown2 hgrow2; have hb2 := Kept.mk (below_of_grown hgrow2); clear hown2 hgrow2)
    go_loop [6] (fun k => k = .int .i64 0) (fun _ => 0)
    case atStart => exact rfl
    case round =>
      cases hrel
      go_wp2
      go_loop [9] (fun k => k = .int .i64 0) (fun _ => 0)
      case atStart => exact rfl
      case round =>
        cases hrel
        go_wp2
        go_loop [11] (fun k => k = .int .i64 0) (fun _ => 0)
        case atStart => exact rfl
        case round =>
          cases hrel
          go_wp2
          go_loop [14] (fun k => k = .int .i64 0) (fun _ => 0)
          case atStart => exact rfl
          case round =>
            cases hrel
            go_wp2
            go_ret
            exact ⟨rfl, hb2.out⟩
theorem infoNTokens : (Tryd.prog.info? 141).map (fun i => (i.zero, i.size, i.bytes)) = some (some (.slice none 0 0), 1, 24) := by kernel_rfl
set_option maxRecDepth 100000 in
theorem nilTokens (w : World) : Calls Tryd.prog 51 #[.slice none 0 0] w fun e w' => e = .returned (.bool true) ∧ Below w.heap.size w w' := by
  obtain ⟨iS, hiS, hzS, hsS, hbS⟩ := info_parts infoNTokens
  go_enter Tryd.func51, Tryd.ntmps51
  go_wp2
  go_loop [3] (fun k => k = .int .i64 0) (fun _ => 0)
  case atStart => exact rfl
  case round =>
    cases hrel
    go_wp2_with (at_make; refine wpList_make_full _ rfl _ _ 65 rfl w.heap.size 141 iS (.slice none 0 0) 1 Tryd.underlying65 hiS hzS hsS .i64 .i64 _ _ 0 (by rfl) (by rfl) rfl rfl (by rw [hbS]; omega) (by decide) (Nat.le_refl _) ?_; intro w2 hown2 hgrow2; have hb2 := Kept.mk (below_of_grown hgrow2); clear hown2 hgrow2)
    go_loop [6] (fun k => k = .int .i64 0) (fun _ => 0)
    case atStart => exact rfl
    case round =>
      cases hrel
      go_wp2
      go_loop [9] (fun k => k = .int .i64 0) (fun _ => 0)
      case atStart => exact rfl
      case round =>
        cases hrel
        go_wp2
        go_loop [11] (fun k => k = .int .i64 0) (fun _ => 0)
        case atStart => exact rfl
        case round =>
          cases hrel
          go_wp2
          go_loop [14] (fun k => k = .int .i64 0) (fun _ => 0)
          case atStart => exact rfl
          case round =>
            cases hrel
            go_wp2
            go_ret
            exact ⟨rfl, hb2.out⟩
theorem infoNExprs : (Tryd.prog.info? 146).map (fun i => (i.zero, i.size, i.bytes)) = some (some (.slice none 0 0), 1, 24) := by kernel_rfl
set_option maxRecDepth 100000 in
theorem nilExprs (w : World) : Calls Tryd.prog 52 #[.slice none 0 0] w fun e w' => e = .returned (.bool true) ∧ Below w.heap.size w w' := by
  obtain ⟨iS, hiS, hzS, hsS, hbS⟩ := info_parts infoNExprs
  go_enter Tryd.func52, Tryd.ntmps52
  go_wp2
  go_loop [3] (fun k => k = .int .i64 0) (fun _ => 0)
  case atStart => exact rfl
  case round =>
    cases hrel
    go_wp2_with (at_make; refine wpList_make_full _ rfl _ _ 66 rfl w.heap.size 146 iS (.slice none 0 0) 1 Tryd.underlying66 hiS hzS hsS .i64 .i64 _ _ 0 (by rfl) (by rfl) rfl rfl (by rw [hbS]; omega) (by decide) (Nat.le_refl _) ?_; intro w2 hown2 hgrow2; have hb2 := Kept.mk (below_of_grown hgrow2); clear hown2 hgrow2)
    go_loop [6] (fun k => k = .int .i64 0) (fun _ => 0)
    case atStart => exact rfl
    case round =>
      cases hrel
      go_wp2
      go_loop [9] (fun k => k = .int .i64 0) (fun _ => 0)
      case atStart => exact rfl
      case round =>
        cases hrel
        go_wp2
        go_loop [11] (fun k => k = .int .i64 0) (fun _ => 0)
        case atStart => exact rfl
        case round =>
          cases hrel
          go_wp2
          go_loop [14] (fun k => k = .int .i64 0) (fun _ => 0)
          case atStart => exact rfl
          case round =>
            cases hrel
            go_wp2
            go_ret
            exact ⟨rfl, hb2.out⟩
theorem infoNItems : (Tryd.prog.info? 154).map (fun i => (i.zero, i.size, i.bytes)) = some (some (.slice none 0 0), 1, 24) := by kernel_rfl
set_option maxRecDepth 100000 in
theorem nilItems (w : World) : Calls Tryd.prog 53 #[.slice none 0 0] w fun e w' => e = .returned (.bool true) ∧ Below w.heap.size w w' := by
  obtain ⟨iS, hiS, hzS, hsS, hbS⟩ := info_parts infoNItems
  go_enter Tryd.func53, Tryd.ntmps53
  go_wp2
  go_loop [3] (fun k => k = .int .i64 0) (fun _ => 0)
  case atStart => exact rfl
  case round =>
    cases hrel
    go_wp2_with (at_make; refine wpList_make_full _ rfl _ _ 67 rfl w.heap.size 154 iS (.slice none 0 0) 1 Tryd.underlying67 hiS hzS hsS .i64 .i64 _ _ 0 (by rfl) (by rfl) rfl rfl (by rw [hbS]; omega) (by decide) (Nat.le_refl _) ?_; intro w2 hown2 hgrow2; have hb2 := Kept.mk (below_of_grown hgrow2); clear hown2 hgrow2)
    go_loop [6] (fun k => k = .int .i64 0) (fun _ => 0)
    case atStart => exact rfl
    case round =>
      cases hrel
      go_wp2
      go_loop [9] (fun k => k = .int .i64 0) (fun _ => 0)
      case atStart => exact rfl
      case round =>
        cases hrel
        go_wp2
        go_loop [11] (fun k => k = .int .i64 0) (fun _ => 0)
        case atStart => exact rfl
        case round =>
          cases hrel
          go_wp2
          go_loop [14] (fun k => k = .int .i64 0) (fun _ => 0)
          case atStart => exact rfl
          case round =>
            cases hrel
            go_wp2
            go_ret
            exact ⟨rfl, hb2.out⟩
theorem infoNShowns : (Tryd.prog.info? 159).map (fun i => (i.zero, i.size, i.bytes)) = some (some (.slice none 0 0), 1, 24) := by kernel_rfl
set_option maxRecDepth 100000 in
theorem nilShowns (w : World) : Calls Tryd.prog 54 #[.slice none 0 0] w fun e w' => e = .returned (.bool true) ∧ Below w.heap.size w w' := by
  obtain ⟨iS, hiS, hzS, hsS, hbS⟩ := info_parts infoNShowns
  go_enter Tryd.func54, Tryd.ntmps54
  go_wp2
  go_loop [3] (fun k => k = .int .i64 0) (fun _ => 0)
  case atStart => exact rfl
  case round =>
    cases hrel
    go_wp2_with (at_make; refine wpList_make_full _ rfl _ _ 68 rfl w.heap.size 159 iS (.slice none 0 0) 1 Tryd.underlying68 hiS hzS hsS .i64 .i64 _ _ 0 (by rfl) (by rfl) rfl rfl (by rw [hbS]; omega) (by decide) (Nat.le_refl _) ?_; intro w2 hown2 hgrow2; have hb2 := Kept.mk (below_of_grown hgrow2); clear hown2 hgrow2)
    go_loop [6] (fun k => k = .int .i64 0) (fun _ => 0)
    case atStart => exact rfl
    case round =>
      cases hrel
      go_wp2
      go_loop [9] (fun k => k = .int .i64 0) (fun _ => 0)
      case atStart => exact rfl
      case round =>
        cases hrel
        go_wp2
        go_loop [11] (fun k => k = .int .i64 0) (fun _ => 0)
        case atStart => exact rfl
        case round =>
          cases hrel
          go_wp2
          go_loop [14] (fun k => k = .int .i64 0) (fun _ => 0)
          case atStart => exact rfl
          case round =>
            cases hrel
            go_wp2
            go_ret
            exact ⟨rfl, hb2.out⟩
theorem infoNParts : (Tryd.prog.info? 163).map (fun i => (i.zero, i.size, i.bytes)) = some (some (.slice none 0 0), 1, 24) := by kernel_rfl
set_option maxRecDepth 100000 in
theorem nilParts (w : World) : Calls Tryd.prog 55 #[.slice none 0 0] w fun e w' => e = .returned (.bool true) ∧ Below w.heap.size w w' := by
  obtain ⟨iS, hiS, hzS, hsS, hbS⟩ := info_parts infoNParts
  go_enter Tryd.func55, Tryd.ntmps55
  go_wp2
  go_loop [3] (fun k => k = .int .i64 0) (fun _ => 0)
  case atStart => exact rfl
  case round =>
    cases hrel
    go_wp2_with (at_make; refine wpList_make_full _ rfl _ _ 69 rfl w.heap.size 163 iS (.slice none 0 0) 1 Tryd.underlying69 hiS hzS hsS .i64 .i64 _ _ 0 (by rfl) (by rfl) rfl rfl (by rw [hbS]; omega) (by decide) (Nat.le_refl _) ?_; intro w2 hown2 hgrow2; have hb2 := Kept.mk (below_of_grown hgrow2); clear hown2 hgrow2)
    go_loop [6] (fun k => k = .int .i64 0) (fun _ => 0)
    case atStart => exact rfl
    case round =>
      cases hrel
      go_wp2
      go_loop [9] (fun k => k = .int .i64 0) (fun _ => 0)
      case atStart => exact rfl
      case round =>
        cases hrel
        go_wp2
        go_loop [11] (fun k => k = .int .i64 0) (fun _ => 0)
        case atStart => exact rfl
        case round =>
          cases hrel
          go_wp2
          go_loop [14] (fun k => k = .int .i64 0) (fun _ => 0)
          case atStart => exact rfl
          case round =>
            cases hrel
            go_wp2
            go_ret
            exact ⟨rfl, hb2.out⟩
theorem infoNCommands : (Tryd.prog.info? 169).map (fun i => (i.zero, i.size, i.bytes)) = some (some (.slice none 0 0), 1, 24) := by kernel_rfl
set_option maxRecDepth 100000 in
theorem nilCommands (w : World) : Calls Tryd.prog 56 #[.slice none 0 0] w fun e w' => e = .returned (.bool true) ∧ Below w.heap.size w w' := by
  obtain ⟨iS, hiS, hzS, hsS, hbS⟩ := info_parts infoNCommands
  go_enter Tryd.func56, Tryd.ntmps56
  go_wp2
  go_loop [3] (fun k => k = .int .i64 0) (fun _ => 0)
  case atStart => exact rfl
  case round =>
    cases hrel
    go_wp2_with (at_make; refine wpList_make_full _ rfl _ _ 70 rfl w.heap.size 169 iS (.slice none 0 0) 1 Tryd.underlying70 hiS hzS hsS .i64 .i64 _ _ 0 (by rfl) (by rfl) rfl rfl (by rw [hbS]; omega) (by decide) (Nat.le_refl _) ?_; intro w2 hown2 hgrow2; have hb2 := Kept.mk (below_of_grown hgrow2); clear hown2 hgrow2)
    go_loop [6] (fun k => k = .int .i64 0) (fun _ => 0)
    case atStart => exact rfl
    case round =>
      cases hrel
      go_wp2
      go_loop [9] (fun k => k = .int .i64 0) (fun _ => 0)
      case atStart => exact rfl
      case round =>
        cases hrel
        go_wp2
        go_loop [11] (fun k => k = .int .i64 0) (fun _ => 0)
        case atStart => exact rfl
        case round =>
          cases hrel
          go_wp2
          go_loop [14] (fun k => k = .int .i64 0) (fun _ => 0)
          case atStart => exact rfl
          case round =>
            cases hrel
            go_wp2
            go_ret
            exact ⟨rfl, hb2.out⟩
end Go.Proofs.YtokphfpjgmmklaaDoor.Flt
