/- The walks over the document's Escape and Quote (chapter 08). -/
import Derived.Test.YtkjodleggfacbaaDoorPrintW
import Derived.Shelf.Strings.Builder1
namespace Go.Proofs.YtkjodleggfacbaaDoor.Wpr
open Go Go.RowKit Go.Proofs.YtkjodleggfacbaaDoor.Kb Go.Proofs.YtkjodleggfacbaaDoor.Emk

theorem ret_str {x y : List UInt8} (h : x = y) : Ending.returned (.string ⟨x.toArray⟩) = .returned (.string ⟨y.toArray⟩) := by rw [h]
theorem own_new (w : World) (l : List UInt8) (hl : l.length ≤ 1000) : (w.alloc (.cells (Lib.byteCells l).toArray 5)).ownsRow w.heap.size 5 1 (.slice (some ⟨w.heap.size, 0, none⟩) l.length l.length) l.length (Lib.byteCells l) := by
  refine ⟨by simp [Lib.byteCells], .inr ⟨w.heap.size, l.length, (Lib.byteCells l).toArray, rfl, Nat.le_refl _, heap_alloc_new w _, Nat.le_refl _, by unfold maxLen; omega, by simp [Lib.byteCells], by rw [List.take_of_length_le (by simp [Lib.byteCells])]⟩⟩
theorem conv_own {w : World} {base n c : Nat} {A : Option Addr} (l : List UInt8) (h : w.ownsRow base 5 1 (.slice A n c) n (Lib.byteCells l)) (hn : l.length = n) : (convert 34 9 (.slice A n c)).run Tryd.prog w = .ok (.string ⟨l.toArray⟩) w := by
  rcases h.2 with ⟨e, h0⟩ | ⟨g, cap, cur, e, _⟩
  · cases e
    obtain rfl : l = [] := List.length_eq_zero_iff.1 (by omega)
    exact run_convert_bytes_nil w _ 5 Tryd.underlying34 Tryd.underlying5 _ _ _ Tryd.underlying9
  · cases e
    subst hn
    refine run_convert_bytes_back _ _ _ 5 _ c l Tryd.underlying34 Tryd.underlying5 Tryd.underlying9 (fun j hj => ?_)
    exact h.cells (g := g) rfl j _ (by simp [Lib.byteCells, List.getElem?_eq_getElem hj])

set_option maxRecDepth 100000 in
set_option maxHeartbeats 4000000 in
theorem refEscape_any (s : ByteArray) (w : World) (hs : s.size ≤ 10000000000) : Calls Tryd.prog 15 #[.string s] w fun e w' => e = .returned (.string ⟨(Ppr.escL s.data.toList).toArray⟩) ∧ Below w.heap.size w w' := by
  obtain ⟨i0, hi, hz0, hz1, hz2⟩ := info_parts infoU
  have HX := Kept.mk (fun k h => byte_get s k h)
  have hl := size_len s
  obtain ⟨L, hL⟩ : ∃ L, s.data.toList = L := ⟨_, rfl⟩
  rw [hL] at HX hl ⊢
  clear hL
  have HO : Kept (w.ownsRow w.heap.size 5 1 (.slice none 0 0) (Ppr.putL Ppr.textC (L.take 0)).length (Lib.byteCells (Ppr.putL Ppr.textC (L.take 0)))) := ⟨World.ownsRow_nil _ _ _ _⟩
  have HA : Kept (Below w.heap.size w w) := ⟨Below.refl _ _⟩
  go_enter Tryd.func15, Tryd.ntmps15
  go_wp2
  go_loopw [3, 4] (fun v i wx => ∃ k : Nat, k ≤ s.size ∧ i = .int .i64 (k : Int) ∧ Kept (wx.ownsRow w.heap.size 5 1 v (Ppr.putL Ppr.textC (L.take k)).length (Lib.byteCells (Ppr.putL Ppr.textC (L.take k)))) ∧ Kept (Below w.heap.size w wx)) (fun _ i _ => s.size - (intOf i).toNat)
  case atStart => exact ⟨0, by omega, rfl, HO, HA⟩
  case round =>
    clear HO HA
    obtain ⟨k, hk, rfl, HO, HB⟩ := hrel
    have k0 : (0 : Int) ≤ (k : Int) := by omega
    have hzb := HB.out.size
    by_cases hlt : k < s.size
    · have k1 : (k : Int) < (s.size : Int) := by omega
      have hx := HX.out k hlt
      have hln := Ppr.putL_len Ppr.textC_len (L.take k)
      rw [List.length_take] at hln
      have hal : (Ppr.putL Ppr.textC (L.take k)).length ≤ 60000000001 := by omega
      have htk : ∀ R, Ppr.putC Ppr.textC s[k] = R → Ppr.putL Ppr.textC (L.take (k + 1)) = (Ppr.putL Ppr.textC (L.take k)) ++ R := fun R e => by
        rw [List.take_add_one, hx, ← e, show L.take k ++ (some s[k]).toList = L.take k ++ [s[k]] from rfl, Ppr.putL_snoc]
      have HTK := Kept.mk htk
      generalize (Ppr.putL Ppr.textC (L.take k)) = acc at HO HTK hal
      clear htk hln hx
      generalize hcc : s[k] = c at HTK
      by_cases d38 : c.toNat = 38
      · have g : ((c.toNat : Nat) : Int) = 38 := by omega
        have hd : c = 38 := UInt8.toNat_inj.1 (by rw [d38]; rfl)
        subst hd
        go_wp2_with (at_builtin; refine Lib.wpList_append_own_string _ rfl (.tmp 22) (.const (.string ⟨#[38, 97, 109, 112, 59]⟩)) 34 9 rfl w.heap.size 5 i0 Tryd.underlying34 Tryd.underlying9 hi hz0 hz1 hz2 _ acc.length (Lib.byteCells acc) (by rfl) HO.out ⟨#[38, 97, 109, 112, 59]⟩ (by rfl) (by show acc.length + 5 ≤ maxLen; unfold maxLen; omega) (by show acc.length + 5 ≤ _; omega) hzb ?_; intro v5 w5 hown5 hgrow5 _; have hb5 := Below.grown HB.out hgrow5 hzb (fun q hq => (HO.out.lt q hq).1); have O5 := Kept.mk hown5; have B5 := Kept.mk hb5; clear hown5 hgrow5 hb5)
        go_roundw
        case rel => exact ⟨k + 1, by omega, by go_num, ⟨by rw [HTK.out [38, 97, 109, 112, 59] (by decide), Lib.byteCells_append, List.length_append]; exact O5.out⟩, B5⟩
        case measure => simp [intOf]; omega
      have g38 : (((c.toNat : Nat) : Int) == 38) = false := by simp; omega
      have n38 : ¬ c = 38 := fun e => d38 (by rw [e]; rfl)
      by_cases d60 : c.toNat = 60
      · have g : ((c.toNat : Nat) : Int) = 60 := by omega
        have hd : c = 60 := UInt8.toNat_inj.1 (by rw [d60]; rfl)
        subst hd
        go_wp2_with (at_builtin; refine Lib.wpList_append_own_string _ rfl (.tmp 26) (.const (.string ⟨#[38, 108, 116, 59]⟩)) 34 9 rfl w.heap.size 5 i0 Tryd.underlying34 Tryd.underlying9 hi hz0 hz1 hz2 _ acc.length (Lib.byteCells acc) (by rfl) HO.out ⟨#[38, 108, 116, 59]⟩ (by rfl) (by show acc.length + 4 ≤ maxLen; unfold maxLen; omega) (by show acc.length + 4 ≤ _; omega) hzb ?_; intro v5 w5 hown5 hgrow5 _; have hb5 := Below.grown HB.out hgrow5 hzb (fun q hq => (HO.out.lt q hq).1); have O5 := Kept.mk hown5; have B5 := Kept.mk hb5; clear hown5 hgrow5 hb5)
        go_roundw
        case rel => exact ⟨k + 1, by omega, by go_num, ⟨by rw [HTK.out [38, 108, 116, 59] (by decide), Lib.byteCells_append, List.length_append]; exact O5.out⟩, B5⟩
        case measure => simp [intOf]; omega
      have g60 : (((c.toNat : Nat) : Int) == 60) = false := by simp; omega
      have n60 : ¬ c = 60 := fun e => d60 (by rw [e]; rfl)
      by_cases d62 : c.toNat = 62
      · have g : ((c.toNat : Nat) : Int) = 62 := by omega
        have hd : c = 62 := UInt8.toNat_inj.1 (by rw [d62]; rfl)
        subst hd
        go_wp2_with (at_builtin; refine Lib.wpList_append_own_string _ rfl (.tmp 30) (.const (.string ⟨#[38, 103, 116, 59]⟩)) 34 9 rfl w.heap.size 5 i0 Tryd.underlying34 Tryd.underlying9 hi hz0 hz1 hz2 _ acc.length (Lib.byteCells acc) (by rfl) HO.out ⟨#[38, 103, 116, 59]⟩ (by rfl) (by show acc.length + 4 ≤ maxLen; unfold maxLen; omega) (by show acc.length + 4 ≤ _; omega) hzb ?_; intro v5 w5 hown5 hgrow5 _; have hb5 := Below.grown HB.out hgrow5 hzb (fun q hq => (HO.out.lt q hq).1); have O5 := Kept.mk hown5; have B5 := Kept.mk hb5; clear hown5 hgrow5 hb5)
        go_roundw
        case rel => exact ⟨k + 1, by omega, by go_num, ⟨by rw [HTK.out [38, 103, 116, 59] (by decide), Lib.byteCells_append, List.length_append]; exact O5.out⟩, B5⟩
        case measure => simp [intOf]; omega
      have g62 : (((c.toNat : Nat) : Int) == 62) = false := by simp; omega
      have n62 : ¬ c = 62 := fun e => d62 (by rw [e]; rfl)
      by_cases d13 : c.toNat = 13
      · have g : ((c.toNat : Nat) : Int) = 13 := by omega
        have hd : c = 13 := UInt8.toNat_inj.1 (by rw [d13]; rfl)
        subst hd
        go_wp2_with (at_builtin; refine Lib.wpList_append_own_string _ rfl (.tmp 34) (.const (.string ⟨#[38, 35, 49, 51, 59]⟩)) 34 9 rfl w.heap.size 5 i0 Tryd.underlying34 Tryd.underlying9 hi hz0 hz1 hz2 _ acc.length (Lib.byteCells acc) (by rfl) HO.out ⟨#[38, 35, 49, 51, 59]⟩ (by rfl) (by show acc.length + 5 ≤ maxLen; unfold maxLen; omega) (by show acc.length + 5 ≤ _; omega) hzb ?_; intro v5 w5 hown5 hgrow5 _; have hb5 := Below.grown HB.out hgrow5 hzb (fun q hq => (HO.out.lt q hq).1); have O5 := Kept.mk hown5; have B5 := Kept.mk hb5; clear hown5 hgrow5 hb5)
        go_roundw
        case rel => exact ⟨k + 1, by omega, by go_num, ⟨by rw [HTK.out [38, 35, 49, 51, 59] (by decide), Lib.byteCells_append, List.length_append]; exact O5.out⟩, B5⟩
        case measure => simp [intOf]; omega
      have g13 : (((c.toNat : Nat) : Int) == 13) = false := by simp; omega
      have n13 : ¬ c = 13 := fun e => d13 (by rw [e]; rfl)
      have hput : Ppr.putC Ppr.textC c = [c] := by unfold Ppr.putC Ppr.textC; simp [n38, n60, n62, n13]
      go_wp2_with (at_builtin; refine wpList_append_own _ rfl (.tmp 14) (.tmp 18) 34 rfl w.heap.size 5 i0 (.int .u8 0) 1 1 Tryd.underlying34 hi hz0 hz1 hz2 rfl (by decide) _ acc.length _ (by rfl) (HO.out.alloc _) ⟨wr.heap.size, 0, none⟩ 1 1 [.int .u8 (c.toNat : Int)] (by rfl) (by rfl) (World.news_of_block (heap_alloc_new _ _)) (by intro u hu; simp at hu; subst hu; rfl) (by unfold maxLen; omega) (by omega) (by simp; omega) ?_; intro v5 w5 hown5 hgrow5 _; have hb5 := Below.grown (HB.out.alloc hzb _) hgrow5 (by simp; omega) (fun q hq => (HO.out.lt q hq).1); have O5 := Kept.mk hown5; have B5 := Kept.mk hb5; clear hown5 hgrow5 hb5)
      go_roundw
      case rel => exact ⟨k + 1, by omega, by go_num, ⟨by rw [HTK.out [c] hput, Lib.byteCells_append, List.length_append]; exact O5.out⟩, B5⟩
      case measure => simp [intOf]; omega
    · obtain rfl : k = s.size := by omega
      rw [List.take_of_length_le (by omega)] at HO
      obtain ⟨A5, c5, rfl, _⟩ := Flt.own_slice HO.out
      have hcv := conv_own _ HO.out rfl
      go_wp2
      go_ret
      exact ⟨rfl, HB.out⟩
set_option maxRecDepth 100000 in
set_option maxHeartbeats 4000000 in
theorem refQuote_any (s : ByteArray) (w : World) (hs : s.size ≤ 10000000000) : Calls Tryd.prog 17 #[.string s] w fun e w' => e = .returned (.string ⟨(Ppr.quoL s.data.toList).toArray⟩) ∧ Below w.heap.size w w' := by
  obtain ⟨i0, hi, hz0, hz1, hz2⟩ := info_parts infoU
  have HX := Kept.mk (fun k h => byte_get s k h)
  have hl := size_len s
  obtain ⟨L, hL⟩ : ∃ L, s.data.toList = L := ⟨_, rfl⟩
  rw [hL] at HX hl ⊢
  clear hL
  obtain ⟨R, hR⟩ : ∃ R, Ppr.quoL L = R := ⟨_, rfl⟩
  rw [hR]
  have HR := Kept.mk hR
  clear hR
  have HO : Kept ((w.alloc (.cells #[.int .u8 34] 5)).ownsRow w.heap.size 5 1 (.slice (some ⟨w.heap.size, 0, none⟩) 1 1) (34 :: Ppr.putL Ppr.valueC (L.take 0)).length (Lib.byteCells (34 :: Ppr.putL Ppr.valueC (L.take 0)))) := ⟨own_new w [34] (by decide)⟩
  have HA : Kept (Below w.heap.size w (w.alloc (.cells #[.int .u8 34] 5))) := ⟨(Below.refl _ _).alloc (Nat.le_refl _) _⟩
  go_enter Tryd.func17, Tryd.ntmps17
  go_wp2
  go_loopw [3, 4] (fun v i wx => ∃ k : Nat, k ≤ s.size ∧ i = .int .i64 (k : Int) ∧ Kept (wx.ownsRow w.heap.size 5 1 v (34 :: Ppr.putL Ppr.valueC (L.take k)).length (Lib.byteCells (34 :: Ppr.putL Ppr.valueC (L.take k)))) ∧ Kept (Below w.heap.size w wx)) (fun _ i _ => s.size - (intOf i).toNat)
  case atStart => exact ⟨0, by omega, rfl, HO, HA⟩
  case round =>
    clear HO HA
    obtain ⟨k, hk, rfl, HO, HB⟩ := hrel
    have k0 : (0 : Int) ≤ (k : Int) := by omega
    have hzb := HB.out.size
    by_cases hlt : k < s.size
    · have k1 : (k : Int) < (s.size : Int) := by omega
      have hx := HX.out k hlt
      have hln := Ppr.putL_len Ppr.valueC_len (L.take k)
      rw [List.length_take] at hln
      have hal : (34 :: Ppr.putL Ppr.valueC (L.take k)).length ≤ 60000000001 := by simp; omega
      have htk : ∀ R, Ppr.putC Ppr.valueC s[k] = R → 34 :: Ppr.putL Ppr.valueC (L.take (k + 1)) = (34 :: Ppr.putL Ppr.valueC (L.take k)) ++ R := fun R e => by
        rw [List.take_add_one, hx, ← e, show L.take k ++ (some s[k]).toList = L.take k ++ [s[k]] from rfl, Ppr.putL_snoc]
        rfl
      have HTK := Kept.mk htk
      generalize (34 :: Ppr.putL Ppr.valueC (L.take k)) = acc at HO HTK hal
      clear htk hln hx
      generalize hcc : s[k] = c at HTK
      by_cases d38 : c.toNat = 38
      · have g : ((c.toNat : Nat) : Int) = 38 := by omega
        have hd : c = 38 := UInt8.toNat_inj.1 (by rw [d38]; rfl)
        subst hd
        go_wp2_with (at_builtin; refine Lib.wpList_append_own_string _ rfl (.tmp 23) (.const (.string ⟨#[38, 97, 109, 112, 59]⟩)) 34 9 rfl w.heap.size 5 i0 Tryd.underlying34 Tryd.underlying9 hi hz0 hz1 hz2 _ acc.length (Lib.byteCells acc) (by rfl) HO.out ⟨#[38, 97, 109, 112, 59]⟩ (by rfl) (by show acc.length + 5 ≤ maxLen; unfold maxLen; omega) (by show acc.length + 5 ≤ _; omega) hzb ?_; intro v5 w5 hown5 hgrow5 _; have hb5 := Below.grown HB.out hgrow5 hzb (fun q hq => (HO.out.lt q hq).1); have O5 := Kept.mk hown5; have B5 := Kept.mk hb5; clear hown5 hgrow5 hb5)
        go_roundw
        case rel => exact ⟨k + 1, by omega, by go_num, ⟨by rw [HTK.out [38, 97, 109, 112, 59] (by decide), Lib.byteCells_append, List.length_append]; exact O5.out⟩, B5⟩
        case measure => simp [intOf]; omega
      have g38 : (((c.toNat : Nat) : Int) == 38) = false := by simp; omega
      have n38 : ¬ c = 38 := fun e => d38 (by rw [e]; rfl)
      by_cases d60 : c.toNat = 60
      · have g : ((c.toNat : Nat) : Int) = 60 := by omega
        have hd : c = 60 := UInt8.toNat_inj.1 (by rw [d60]; rfl)
        subst hd
        go_wp2_with (at_builtin; refine Lib.wpList_append_own_string _ rfl (.tmp 27) (.const (.string ⟨#[38, 108, 116, 59]⟩)) 34 9 rfl w.heap.size 5 i0 Tryd.underlying34 Tryd.underlying9 hi hz0 hz1 hz2 _ acc.length (Lib.byteCells acc) (by rfl) HO.out ⟨#[38, 108, 116, 59]⟩ (by rfl) (by show acc.length + 4 ≤ maxLen; unfold maxLen; omega) (by show acc.length + 4 ≤ _; omega) hzb ?_; intro v5 w5 hown5 hgrow5 _; have hb5 := Below.grown HB.out hgrow5 hzb (fun q hq => (HO.out.lt q hq).1); have O5 := Kept.mk hown5; have B5 := Kept.mk hb5; clear hown5 hgrow5 hb5)
        go_roundw
        case rel => exact ⟨k + 1, by omega, by go_num, ⟨by rw [HTK.out [38, 108, 116, 59] (by decide), Lib.byteCells_append, List.length_append]; exact O5.out⟩, B5⟩
        case measure => simp [intOf]; omega
      have g60 : (((c.toNat : Nat) : Int) == 60) = false := by simp; omega
      have n60 : ¬ c = 60 := fun e => d60 (by rw [e]; rfl)
      by_cases d34 : c.toNat = 34
      · have g : ((c.toNat : Nat) : Int) = 34 := by omega
        have hd : c = 34 := UInt8.toNat_inj.1 (by rw [d34]; rfl)
        subst hd
        go_wp2_with (at_builtin; refine Lib.wpList_append_own_string _ rfl (.tmp 31) (.const (.string ⟨#[38, 113, 117, 111, 116, 59]⟩)) 34 9 rfl w.heap.size 5 i0 Tryd.underlying34 Tryd.underlying9 hi hz0 hz1 hz2 _ acc.length (Lib.byteCells acc) (by rfl) HO.out ⟨#[38, 113, 117, 111, 116, 59]⟩ (by rfl) (by show acc.length + 6 ≤ maxLen; unfold maxLen; omega) (by show acc.length + 6 ≤ _; omega) hzb ?_; intro v5 w5 hown5 hgrow5 _; have hb5 := Below.grown HB.out hgrow5 hzb (fun q hq => (HO.out.lt q hq).1); have O5 := Kept.mk hown5; have B5 := Kept.mk hb5; clear hown5 hgrow5 hb5)
        go_roundw
        case rel => exact ⟨k + 1, by omega, by go_num, ⟨by rw [HTK.out [38, 113, 117, 111, 116, 59] (by decide), Lib.byteCells_append, List.length_append]; exact O5.out⟩, B5⟩
        case measure => simp [intOf]; omega
      have g34 : (((c.toNat : Nat) : Int) == 34) = false := by simp; omega
      have n34 : ¬ c = 34 := fun e => d34 (by rw [e]; rfl)
      by_cases d9 : c.toNat = 9
      · have g : ((c.toNat : Nat) : Int) = 9 := by omega
        have hd : c = 9 := UInt8.toNat_inj.1 (by rw [d9]; rfl)
        subst hd
        go_wp2_with (at_builtin; refine Lib.wpList_append_own_string _ rfl (.tmp 35) (.const (.string ⟨#[38, 35, 57, 59]⟩)) 34 9 rfl w.heap.size 5 i0 Tryd.underlying34 Tryd.underlying9 hi hz0 hz1 hz2 _ acc.length (Lib.byteCells acc) (by rfl) HO.out ⟨#[38, 35, 57, 59]⟩ (by rfl) (by show acc.length + 4 ≤ maxLen; unfold maxLen; omega) (by show acc.length + 4 ≤ _; omega) hzb ?_; intro v5 w5 hown5 hgrow5 _; have hb5 := Below.grown HB.out hgrow5 hzb (fun q hq => (HO.out.lt q hq).1); have O5 := Kept.mk hown5; have B5 := Kept.mk hb5; clear hown5 hgrow5 hb5)
        go_roundw
        case rel => exact ⟨k + 1, by omega, by go_num, ⟨by rw [HTK.out [38, 35, 57, 59] (by decide), Lib.byteCells_append, List.length_append]; exact O5.out⟩, B5⟩
        case measure => simp [intOf]; omega
      have g9 : (((c.toNat : Nat) : Int) == 9) = false := by simp; omega
      have n9 : ¬ c = 9 := fun e => d9 (by rw [e]; rfl)
      by_cases d10 : c.toNat = 10
      · have g : ((c.toNat : Nat) : Int) = 10 := by omega
        have hd : c = 10 := UInt8.toNat_inj.1 (by rw [d10]; rfl)
        subst hd
        go_wp2_with (at_builtin; refine Lib.wpList_append_own_string _ rfl (.tmp 39) (.const (.string ⟨#[38, 35, 49, 48, 59]⟩)) 34 9 rfl w.heap.size 5 i0 Tryd.underlying34 Tryd.underlying9 hi hz0 hz1 hz2 _ acc.length (Lib.byteCells acc) (by rfl) HO.out ⟨#[38, 35, 49, 48, 59]⟩ (by rfl) (by show acc.length + 5 ≤ maxLen; unfold maxLen; omega) (by show acc.length + 5 ≤ _; omega) hzb ?_; intro v5 w5 hown5 hgrow5 _; have hb5 := Below.grown HB.out hgrow5 hzb (fun q hq => (HO.out.lt q hq).1); have O5 := Kept.mk hown5; have B5 := Kept.mk hb5; clear hown5 hgrow5 hb5)
        go_roundw
        case rel => exact ⟨k + 1, by omega, by go_num, ⟨by rw [HTK.out [38, 35, 49, 48, 59] (by decide), Lib.byteCells_append, List.length_append]; exact O5.out⟩, B5⟩
        case measure => simp [intOf]; omega
      have g10 : (((c.toNat : Nat) : Int) == 10) = false := by simp; omega
      have n10 : ¬ c = 10 := fun e => d10 (by rw [e]; rfl)
      by_cases d13 : c.toNat = 13
      · have g : ((c.toNat : Nat) : Int) = 13 := by omega
        have hd : c = 13 := UInt8.toNat_inj.1 (by rw [d13]; rfl)
        subst hd
        go_wp2_with (at_builtin; refine Lib.wpList_append_own_string _ rfl (.tmp 43) (.const (.string ⟨#[38, 35, 49, 51, 59]⟩)) 34 9 rfl w.heap.size 5 i0 Tryd.underlying34 Tryd.underlying9 hi hz0 hz1 hz2 _ acc.length (Lib.byteCells acc) (by rfl) HO.out ⟨#[38, 35, 49, 51, 59]⟩ (by rfl) (by show acc.length + 5 ≤ maxLen; unfold maxLen; omega) (by show acc.length + 5 ≤ _; omega) hzb ?_; intro v5 w5 hown5 hgrow5 _; have hb5 := Below.grown HB.out hgrow5 hzb (fun q hq => (HO.out.lt q hq).1); have O5 := Kept.mk hown5; have B5 := Kept.mk hb5; clear hown5 hgrow5 hb5)
        go_roundw
        case rel => exact ⟨k + 1, by omega, by go_num, ⟨by rw [HTK.out [38, 35, 49, 51, 59] (by decide), Lib.byteCells_append, List.length_append]; exact O5.out⟩, B5⟩
        case measure => simp [intOf]; omega
      have g13 : (((c.toNat : Nat) : Int) == 13) = false := by simp; omega
      have n13 : ¬ c = 13 := fun e => d13 (by rw [e]; rfl)
      have hput : Ppr.putC Ppr.valueC c = [c] := by unfold Ppr.putC Ppr.valueC Ppr.textC; by_cases n62 : c = 62 <;> simp [n38, n60, n34, n9, n10, n13, n62]
      go_wp2_with (at_builtin; refine wpList_append_own _ rfl (.tmp 15) (.tmp 19) 34 rfl w.heap.size 5 i0 (.int .u8 0) 1 1 Tryd.underlying34 hi hz0 hz1 hz2 rfl (by decide) _ acc.length _ (by rfl) (HO.out.alloc _) ⟨wr.heap.size, 0, none⟩ 1 1 [.int .u8 (c.toNat : Int)] (by rfl) (by rfl) (World.news_of_block (heap_alloc_new _ _)) (by intro u hu; simp at hu; subst hu; rfl) (by unfold maxLen; omega) (by omega) (by simp; omega) ?_; intro v5 w5 hown5 hgrow5 _; have hb5 := Below.grown (HB.out.alloc hzb _) hgrow5 (by simp; omega) (fun q hq => (HO.out.lt q hq).1); have O5 := Kept.mk hown5; have B5 := Kept.mk hb5; clear hown5 hgrow5 hb5)
      go_roundw
      case rel => exact ⟨k + 1, by omega, by go_num, ⟨by rw [HTK.out [c] hput, Lib.byteCells_append, List.length_append]; exact O5.out⟩, B5⟩
      case measure => simp [intOf]; omega
    · obtain rfl : k = s.size := by omega
      rw [List.take_of_length_le (by omega)] at HO
      have hln := Ppr.putL_len Ppr.valueC_len L
      have hal : (34 :: Ppr.putL Ppr.valueC L).length ≤ 60000000001 := by simp; omega
      have HQ : Kept (R = (34 :: Ppr.putL Ppr.valueC L) ++ [34]) := ⟨by rw [← HR.out]; rfl⟩
      clear hln HR
      generalize (34 :: Ppr.putL Ppr.valueC L) = acc at HO hal HQ
      go_wp2_with (at_builtin; refine wpList_append_own _ rfl (.tmp 45) (.tmp 46) 34 rfl w.heap.size 5 i0 (.int .u8 0) 1 1 Tryd.underlying34 hi hz0 hz1 hz2 rfl (by decide) _ acc.length _ (by rfl) (HO.out.alloc _) ⟨wr.heap.size, 0, none⟩ 1 1 [.int .u8 34] (by rfl) (by rfl) (World.news_of_block (heap_alloc_new _ _)) (by intro u hu; simp at hu; subst hu; rfl) (by unfold maxLen; omega) (by omega) (by simp; omega) ?_; intro v5 w5 hown5 hgrow5 _; have hb5 := Below.grown (HB.out.alloc hzb _) hgrow5 (by simp; omega) (fun q hq => (HO.out.lt q hq).1); obtain ⟨A5, c5, rfl, _⟩ := Flt.own_slice hown5; have hcv := conv_own (acc ++ [34]) (by rw [Lib.byteCells_append]; exact hown5) (by simp); have B5 := Kept.mk hb5; clear hown5 hgrow5 hb5)
      go_ret
      exact ⟨ret_str HQ.out.symm, B5.out⟩
end Go.Proofs.YtkjodleggfacbaaDoor.Wpr
