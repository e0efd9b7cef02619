/- The walk over CharsNumbers. -/
import Derived.Test.YtfejbilnpceejaaDoorCharsLaws
import Derived.Test.YtfejbilnpceejaaDoorCharsWalksD
import Derived.Test.YtfejbilnpceejaaDoorShelfRep
import Derived.Laws.Runes
import Derived.Laws.Cover4
import Derived.Deep.CutBlock
namespace Go.Proofs.YtfejbilnpceejaaDoor.Wch
open Go Go.RowKit

/-- kept from every tactic of the walk -/
structure Kept (p : Prop) : Prop where
  out : p
def endsL : List Int := [0, 9, 10, 13, 32, 45, 46, 48, 57, 58, 65, 90, 95, 97, 122, 127, 183, 192, 214, 215, 216, 246, 247, 248, 767, 768, 879, 880, 893, 894, 895, 8191, 8204, 8205, 8255, 8256, 8304, 8591, 11264, 12271, 12289, 55295, 55296, 57343, 57344, 63744, 64975, 65008, 65533, 65536, 983039, 1114111, -2147483648, 2147483647]
def oddL : List ByteArray := [⟨#[128]⟩, ⟨#[192, 128]⟩, ⟨#[193, 191]⟩, ⟨#[194]⟩, ⟨#[194, 32]⟩, ⟨#[224, 128, 128]⟩, ⟨#[224, 159, 191]⟩, ⟨#[224, 160]⟩, ⟨#[237, 160, 128]⟩, ⟨#[239, 191, 190]⟩, ⟨#[239, 191, 191]⟩, ⟨#[240, 128, 128, 128]⟩, ⟨#[240, 143, 191, 191]⟩, ⟨#[244, 144, 128, 128]⟩, ⟨#[245, 128, 128, 128]⟩, ⟨#[255]⟩, ⟨#[97, 255]⟩, ⟨#[0]⟩, ⟨#[11]⟩, ⟨#[31]⟩]
theorem odd_all : ∀ x ∈ oddL, (Pch.textsL x.data.toList = false ∧ x.size ≤ 100) ∧ (Pch.textsL ((⟨#[97, 98]⟩ : ByteArray) ++ x ++ ⟨#[99]⟩).data.toList = false ∧ ((⟨#[97, 98]⟩ : ByteArray) ++ x ++ ⟨#[99]⟩).size ≤ 100) ∧ Pch.nameL x.data.toList = false ∧ (Pch.nameL ((⟨#[97]⟩ : ByteArray) ++ x).data.toList = false ∧ ((⟨#[97]⟩ : ByteArray) ++ x).size ≤ 100) ∧ Pch.blankL x.data.toList = false := by decide +kernel
theorem below_any {w w1 w2 : World} (h : Below w.heap.size w w1) (h' : Below w1.heap.size w1 w2) : Below w.heap.size w w2 := h.trans (h'.mono h.size)
def longB : ByteArray := ⟨(List.replicate 100 97).toArray⟩
def wideB : ByteArray := ⟨((List.replicate 50 [195, 169]).flatten).toArray⟩
theorem long_facts : Pch.nameL longB.data.toList = true ∧ longB.size ≤ 1000 := by decide +kernel
theorem long_facts1 : Pch.nameL (longB ++ (⟨#[97]⟩ : ByteArray)).data.toList = false ∧ (longB ++ (⟨#[97]⟩ : ByteArray)).size ≤ 1000 := by decide +kernel
theorem wide_facts : Pch.nameL wideB.data.toList = true ∧ wideB.size ≤ 1000 := by decide +kernel
theorem wide_facts1 : Pch.nameL (wideB ++ (⟨#[195, 169]⟩ : ByteArray)).data.toList = false ∧ (wideB ++ (⟨#[195, 169]⟩ : ByteArray)).size ≤ 1000 := by decide +kernel
theorem wide_facts2 : Pch.textsL (wideB ++ longB).data.toList = true ∧ (wideB ++ longB).size ≤ 1000 := by decide +kernel
theorem rep_long (w : World) : Calls Tryd.prog 21 #[.string ⟨#[97]⟩, .int .i64 100] w fun e w' => e = .returned (.string longB) ∧ Below w.heap.size w w' := by
  have h := Any.strings_Repeat Tryd.lays105 Tryd.Builder_Extra_105 ⟨#[97]⟩ 100 w (by decide) (by decide)
  have e : (⟨(Lib.repeatL (⟨#[97]⟩ : ByteArray).data.toList 100).toArray⟩ : ByteArray) = longB := by decide +kernel
  rw [e] at h
  exact h
theorem rep_wide (w : World) : Calls Tryd.prog 21 #[.string ⟨#[195, 169]⟩, .int .i64 50] w fun e w' => e = .returned (.string wideB) ∧ Below w.heap.size w w' := by
  have h := Any.strings_Repeat Tryd.lays105 Tryd.Builder_Extra_105 ⟨#[195, 169]⟩ 50 w (by decide) (by decide)
  have e : (⟨(Lib.repeatL (⟨#[195, 169]⟩ : ByteArray).data.toList 50).toArray⟩ : ByteArray) = wideB := by decide +kernel
  rw [e] at h
  exact h
theorem texts_at_ {w : World} (ht : Env w) (x : ByteArray) (b : Bool) (h1 : Pch.textsL x.data.toList = b) (h2 : x.size ≤ 1000) : ∀ wx, Below w.heap.size w wx → Calls Tryd.prog 17 #[.string x] wx fun e w' => e = .returned (.bool b) ∧ Below wx.heap.size wx w' := fun wx hb => by
  subst h1
  exact texts_any x wx (by omega) (ht.below hb)
theorem name_at_ {w : World} (ht : Env w) (x : ByteArray) (b : Bool) (h1 : Pch.nameL x.data.toList = b) (h2 : x.size ≤ 1000) : ∀ wx, Below w.heap.size w wx → Calls Tryd.prog 15 #[.string x] wx fun e w' => e = .returned (.bool b) ∧ Below wx.heap.size wx w' := fun wx hb => by
  subst h1
  exact nametext_any x wx (by omega) (ht.below hb)
theorem blank_at_ (x : ByteArray) (b : Bool) (h1 : Pch.blankL x.data.toList = b) (h2 : x.size ≤ 1000) : ∀ wx, Calls Tryd.prog 19 #[.string x] wx fun e w' => e = .returned (.bool b) ∧ Below wx.heap.size wx w' := fun wx => by
  subst h1
  exact blank_any x wx (by omega)
set_option maxRecDepth 100000 in
set_option maxHeartbeats 4000000 in
theorem law_numbers (w : World) (ht : Env w) :
    Calls Tryd.prog 7 #[] w fun e w' => e = .returned (.bool true) ∧ Below w.heap.size w w' := by
  have HT := Kept.mk ht
  clear ht
  go_enter Tryd.func7, Tryd.ntmps7
  go_upto_region 2 with (fail)
  have hB0 : Below w.heap.size w (w.alloc (.cells (endsL.map (Value.int .i32)).toArray 21)) := (Below.refl _ _).alloc (Nat.le_refl _) _
  have hC : ∀ j x, endsL[j]? = some x → (w.alloc (.cells (endsL.map (Value.int .i32)).toArray 21)).cell? ⟨w.heap.size, j, none⟩ = some (.int .i32 x) := fun j x hx => by
    rw [World.cell?_alloc_new]
    simp [hx]
  change Code.wp _ _ _ _ (w.alloc (.cells (endsL.map (Value.int .i32)).toArray 21))
  generalize w.alloc (.cells (endsL.map (Value.int .i32)).toArray 21) = W at hB0 hC ⊢
  have HC := Kept.mk hC
  clear hC
  go_upto_block 0 with (fail)
  go_cut [] (fun wx => Below w.heap.size w wx)
  case first =>
    go_wp2
    go_loopw [2] (fun i wx => ∃ k : Nat, k ≤ 54 ∧ i = .int .i64 k ∧ Below w.heap.size w wx ∧ Below W.heap.size W wx) (fun i _ => 54 - (intOf i).toNat)
    case atStart => exact ⟨0, by omega, rfl, hB0, Below.refl _ _⟩
    case round =>
      obtain ⟨k, hk, rfl, hb, hb'⟩ := hrel
      by_cases hlt : k < 54
      · obtain ⟨n, hx⟩ : ∃ x, endsL[k]? = some x := ⟨endsL[k]'hlt, List.getElem?_eq_getElem hlt⟩
        have HX := Kept.mk hx
        have i0 : (0 : Int) ≤ (k : Int) := by omega
        have i1 : (k : Int) < 54 := by omega
        clear hx
        obtain ⟨wo, hwo⟩ : ∃ wo : World, wo = wr := ⟨_, rfl⟩
        subst hwo
        go_wp2
        go_loopw [3] (fun i wx => ∃ d : Int, -1 ≤ d ∧ d ≤ 2 ∧ i = .int .i32 d ∧ Below w.heap.size w wx ∧ Below W.heap.size W wx) (fun i _ => (2 - intOf i).toNat)
        case atStart => exact ⟨-1, by omega, by omega, rfl, hb, hb'⟩
        case round =>
          obtain ⟨d, d0, d1, rfl, hbd, hbd'⟩ := hrel
          by_cases hd : d ≤ 1
          · have hc : wr.cell? ⟨w.heap.size, k, none⟩ = some (.int .i32 n) := by
              have h1 := HC.out k n HX.out
              rw [hbd'.cell (p := ⟨w.heap.size, k, none⟩) (cell_lt h1)]
              exact h1
            go_wp2_with (fail)
            refine (law_runes _ _ (HT.out.below hbd)).mono ?_; rintro e w1 ⟨rfl, h1⟩
            have g1 := below_any hbd h1
            have g1' := below_any hbd' h1
            clear h1 hbd hbd' hc
            generalize wrap32 (n + d) = R
            have e4 := encode_size_le R
            go_wp2_with (fail)
            refine (law_texts _ _ (HT.out.below g1)).mono ?_; rintro e w2 ⟨rfl, h2⟩
            have g2 := below_any g1 h2
            have g2' := below_any g1' h2
            clear h2 g1 g1'
            go_wp2_with (fail)
            refine (law_texts _ _ (HT.out.below g2)).mono ?_; rintro e w3 ⟨rfl, h3⟩
            have g3 := below_any g2 h3
            have g3' := below_any g2' h3
            clear h3 g2 g2'
            go_wp2_with (fail)
            refine (law_texts _ _ (HT.out.below g3)).mono ?_; rintro e w4 ⟨rfl, h4⟩
            have g4 := below_any g3 h4
            have g4' := below_any g3' h4
            clear h4 g3 g3'
            go_wp2_with (fail)
            go_roundw
            case rel => exact ⟨d + 1, by omega, by omega, rfl, g4, g4'⟩
            case measure => simp [intOf]; omega
          · obtain rfl : d = 2 := by omega
            go_wp2
            go_roundw
            case rel => exact ⟨k + 1, by omega, by go_num, hbd, hbd'⟩
            case measure => simp [intOf]; omega
      · obtain rfl : k = 54 := by omega
        go_wp2
        go_meet
        case rel => exact hb
  case rest =>
    clear hB0
    go_upto_region 12 with (fail)
    have hB1 : Below w.heap.size w (wc.alloc (.cells (oddL.map Value.string).toArray 9)) := hcut.alloc hcut.size _
    have hY : ∀ j x, oddL[j]? = some x → (wc.alloc (.cells (oddL.map Value.string).toArray 9)).cell? ⟨wc.heap.size, j, none⟩ = some (.string x) := fun j x hx => by
      rw [World.cell?_alloc_new]
      simp [hx]
    change Code.wp _ _ _ _ (wc.alloc (.cells (oddL.map Value.string).toArray 9))
    generalize wc.alloc (.cells (oddL.map Value.string).toArray 9) = V at hB1 hY ⊢
    have HY := Kept.mk hY
    generalize wc.heap.size = Bk at HY ⊢
    clear hY hcut
    go_upto_block 4 with (fail)
    go_cut [] (fun wx => Below w.heap.size w wx)
    case first =>
      go_wp2
      go_loopw [6] (fun i wx => ∃ k : Nat, k ≤ 20 ∧ i = .int .i64 k ∧ Below w.heap.size w wx ∧ Below V.heap.size V wx) (fun i _ => 20 - (intOf i).toNat)
      case atStart => exact ⟨0, by omega, rfl, hB1, Below.refl _ _⟩
      case round =>
        obtain ⟨k, hk, rfl, hb, hb'⟩ := hrel
        by_cases hlt : k < 20
        · obtain ⟨x, hx⟩ : ∃ x, oddL[k]? = some x := ⟨oddL[k]'hlt, List.getElem?_eq_getElem hlt⟩
          have hcx : ∀ wx, Below V.heap.size V wx → wx.cell? ⟨Bk, k, none⟩ = some (.string x) := fun wx hbx => by
            have h1 := HY.out k x hx
            rw [hbx.cell (p := ⟨Bk, k, none⟩) (cell_lt h1)]
            exact h1
          have HC := Kept.mk hcx
          obtain ⟨⟨x1, x2⟩, ⟨x3, x4⟩, x5, ⟨x6, x7⟩, x8⟩ := odd_all x (List.mem_of_getElem? hx)
          have i0 : (0 : Int) ≤ (k : Int) := by omega
          have i1 : (k : Int) < 20 := by omega
          have C1 := Kept.mk (texts_at_ HT.out x false x1 (by omega))
          have C2 := Kept.mk (texts_at_ HT.out _ false x3 (by omega))
          have C3 := Kept.mk (name_at_ HT.out x false x5 (by omega))
          have C4 := Kept.mk (name_at_ HT.out _ false x6 (by omega))
          have C5 := Kept.mk (blank_at_ x false x8 (by omega))
          have xs : x.size ≤ 100 := x2
          clear hx hcx x1 x2 x3 x4 x5 x6 x7 x8
          have hc0 := HC.out _ hb'
          go_wp2_with (fail)
          refine (C1.out _ hb).mono ?_; rintro e w1 ⟨rfl, h1⟩
          have g1 := below_any hb h1
          have g1' := below_any hb' h1
          clear h1 hb hb' hc0
          have hc1 := HC.out _ g1'
          go_wp2_with (fail)
          refine (C2.out _ g1).mono ?_; rintro e w2 ⟨rfl, h2⟩
          have g2 := below_any g1 h2
          have g2' := below_any g1' h2
          clear h2 g1 g1' hc1
          have hc2 := HC.out _ g2'
          go_wp2_with (fail)
          refine (C3.out _ g2).mono ?_; rintro e w3 ⟨rfl, h3⟩
          have g3 := below_any g2 h3
          have g3' := below_any g2' h3
          clear h3 g2 g2' hc2
          have hc3 := HC.out _ g3'
          go_wp2_with (fail)
          refine (C4.out _ g3).mono ?_; rintro e w4 ⟨rfl, h4⟩
          have g4 := below_any g3 h4
          have g4' := below_any g3' h4
          clear h4 g3 g3' hc3
          have hc4 := HC.out _ g4'
          go_wp2_with (fail)
          refine (C5.out _).mono ?_; rintro e w5 ⟨rfl, h5⟩
          have g5 := below_any g4 h5
          have g5' := below_any g4' h5
          clear h5 g4 g4' hc4
          go_wp2_with (fail)
          go_roundw
          case rel => exact ⟨k + 1, by omega, by go_num, g5, g5'⟩
          case measure => simp [intOf]; omega
        · obtain rfl : k = 20 := by omega
          go_wp2
          go_meet
          case rel => exact hb
    case rest =>
      clear hB1
      have N1 := Kept.mk (name_at_ HT.out longB true long_facts.1 long_facts.2)
      have N2 := Kept.mk (name_at_ HT.out _ false long_facts1.1 long_facts1.2)
      have N3 := Kept.mk (name_at_ HT.out wideB true wide_facts.1 wide_facts.2)
      have N4 := Kept.mk (name_at_ HT.out _ false wide_facts1.1 wide_facts1.2)
      have N5 := Kept.mk (texts_at_ HT.out _ true wide_facts2.1 wide_facts2.2)
      go_wp2_with (fail)
      refine (rep_long _).mono ?_; rintro e w1 ⟨rfl, h1⟩
      have g1 := below_any hcut h1
      clear h1
      have zl := long_facts.2
      generalize longB = LB at N1 N2 N5 zl ⊢
      go_wp2_with (fail)
      refine (rep_wide _).mono ?_; rintro e w2 ⟨rfl, h2⟩
      have g2 := below_any g1 h2
      clear h2
      have zw := wide_facts.2
      generalize wideB = WB at N3 N4 N5 zw ⊢
      go_wp2_with (fail)
      refine (N1.out _ g2).mono ?_; rintro e w3 ⟨rfl, h3⟩
      have g3 := below_any g2 h3
      go_wp2_with (fail)
      refine (N2.out _ g3).mono ?_; rintro e w4 ⟨rfl, h4⟩
      have g4 := below_any g3 h4
      go_wp2_with (fail)
      refine (N3.out _ g4).mono ?_; rintro e w5 ⟨rfl, h5⟩
      have g5 := below_any g4 h5
      go_wp2_with (fail)
      refine (N4.out _ g5).mono ?_; rintro e w6 ⟨rfl, h6⟩
      have g6 := below_any g5 h6
      go_wp2_with (fail)
      refine (N5.out _ g6).mono ?_; rintro e w7 ⟨rfl, h7⟩
      have g7 := below_any g6 h7
      clear h3 h4 h5 h6 h7 g1 g2 g3 g4 g5 g6
      go_wp2_with (fail)
      refine (awake_any _ (HT.out.below g7)).mono ?_; rintro e w9 ⟨rfl, h9⟩
      have g9 := below_any g7 h9
      go_wp2_with (fail)
      go_ret
      exact ⟨rfl, g9⟩
end Go.Proofs.YtfejbilnpceejaaDoor.Wch
