/- The walks over print's text, value, written, Escape, Quote, and the document's Escape and Quote (chapter 08). -/
import Derived.Test.YtkjodleggfacbaaDoorEmb
import Derived.Test.YtkjodleggfacbaaDoorPrintP
import Derived.Test.YtkjodleggfacbaaDoorCharsWalksC
namespace Go.Proofs.YtkjodleggfacbaaDoor.Wpr
open Go Go.RowKit Go.Proofs.YtkjodleggfacbaaDoor.Kb Go.Proofs.YtkjodleggfacbaaDoor.Emk

theorem size_len (s : ByteArray) : s.data.toList.length = s.size := by rw [Array.length_toList]; rfl
theorem byte_get (s : ByteArray) (k : Nat) (h : k < s.size) : s.data.toList[k]? = some s[k] := by
  rw [Array.getElem?_toList]
  show s.data[k]? = some s.data[k]
  exact Array.getElem?_eq_getElem h
theorem lies_own : liesAt Tryd.prog Tryd.prog.depth 45 ((([] : List Value).length + 2 + ([] : List Value).length) / Tryd.prog.cellsOf 45) ([] : List Value).length 45 1 = true := by kernel_rfl
theorem bld_ne : 45 ≠ 5 := by decide
theorem bld_fresh (w : World) : Is 45 [] [] w.heap.size w.heap.size [] (w.alloc (.cells #[.pointer none, .slice none 0 0] 45)) :=
  .inl ⟨.slice none 0 0, heap_alloc_new w _, World.ownsRow_nil _ _ _ _, by simp [Value.ownBlock]⟩

set_option maxRecDepth 100000 in
theorem text_any (c : UInt8) (w : World) : Calls Tryd.prog 28 #[.int .u8 (c.toNat : Int)] w fun e w' => e = .returned (.string ⟨(Ppr.textC c).toArray⟩) ∧ w = w' := by
  by_cases d38 : c.toNat = 38
  · have g : ((c.toNat : Nat) : Int) = 38 := by omega
    have hd : c = 38 := UInt8.toNat_inj.1 (by rw [d38]; rfl)
    subst hd
    go_enter Tryd.func28, Tryd.ntmps28
    go_wp2
    go_ret
    exact ⟨rfl, rfl⟩
  have g38 : (((c.toNat : Nat) : Int) == 38) = false := by simp; omega
  have n38 : ¬ c = 38 := fun e => d38 (by rw [e]; rfl)
  by_cases d60 : c.toNat = 60
  · have g : ((c.toNat : Nat) : Int) = 60 := by omega
    have hd : c = 60 := UInt8.toNat_inj.1 (by rw [d60]; rfl)
    subst hd
    go_enter Tryd.func28, Tryd.ntmps28
    go_wp2
    go_ret
    exact ⟨rfl, rfl⟩
  have g60 : (((c.toNat : Nat) : Int) == 60) = false := by simp; omega
  have n60 : ¬ c = 60 := fun e => d60 (by rw [e]; rfl)
  by_cases d62 : c.toNat = 62
  · have g : ((c.toNat : Nat) : Int) = 62 := by omega
    have hd : c = 62 := UInt8.toNat_inj.1 (by rw [d62]; rfl)
    subst hd
    go_enter Tryd.func28, Tryd.ntmps28
    go_wp2
    go_ret
    exact ⟨rfl, rfl⟩
  have g62 : (((c.toNat : Nat) : Int) == 62) = false := by simp; omega
  have n62 : ¬ c = 62 := fun e => d62 (by rw [e]; rfl)
  by_cases d13 : c.toNat = 13
  · have g : ((c.toNat : Nat) : Int) = 13 := by omega
    have hd : c = 13 := UInt8.toNat_inj.1 (by rw [d13]; rfl)
    subst hd
    go_enter Tryd.func28, Tryd.ntmps28
    go_wp2
    go_ret
    exact ⟨rfl, rfl⟩
  have g13 : (((c.toNat : Nat) : Int) == 13) = false := by simp; omega
  have n13 : ¬ c = 13 := fun e => d13 (by rw [e]; rfl)
  have h : Ppr.textC c = [] := by unfold Ppr.textC; rw [if_neg n38, if_neg n60, if_neg n62, if_neg n13]
  rw [h]
  go_enter Tryd.func28, Tryd.ntmps28
  go_wp2
  go_ret
  exact ⟨rfl, rfl⟩
set_option maxRecDepth 100000 in
theorem value_any (c : UInt8) (w : World) : Calls Tryd.prog 29 #[.int .u8 (c.toNat : Int)] w fun e w' => e = .returned (.string ⟨(Ppr.valueC c).toArray⟩) ∧ w = w' := by
  by_cases d34 : c.toNat = 34
  · have g : ((c.toNat : Nat) : Int) = 34 := by omega
    have hd : c = 34 := UInt8.toNat_inj.1 (by rw [d34]; rfl)
    subst hd
    go_enter Tryd.func29, Tryd.ntmps29
    go_wp2
    go_ret
    exact ⟨rfl, rfl⟩
  have g34 : (((c.toNat : Nat) : Int) == 34) = false := by simp; omega
  have n34 : ¬ c = 34 := fun e => d34 (by rw [e]; rfl)
  by_cases d9 : c.toNat = 9
  · have g : ((c.toNat : Nat) : Int) = 9 := by omega
    have hd : c = 9 := UInt8.toNat_inj.1 (by rw [d9]; rfl)
    subst hd
    go_enter Tryd.func29, Tryd.ntmps29
    go_wp2
    go_ret
    exact ⟨rfl, rfl⟩
  have g9 : (((c.toNat : Nat) : Int) == 9) = false := by simp; omega
  have n9 : ¬ c = 9 := fun e => d9 (by rw [e]; rfl)
  by_cases d10 : c.toNat = 10
  · have g : ((c.toNat : Nat) : Int) = 10 := by omega
    have hd : c = 10 := UInt8.toNat_inj.1 (by rw [d10]; rfl)
    subst hd
    go_enter Tryd.func29, Tryd.ntmps29
    go_wp2
    go_ret
    exact ⟨rfl, rfl⟩
  have g10 : (((c.toNat : Nat) : Int) == 10) = false := by simp; omega
  have n10 : ¬ c = 10 := fun e => d10 (by rw [e]; rfl)
  by_cases d62 : c.toNat = 62
  · have g : ((c.toNat : Nat) : Int) = 62 := by omega
    have hd : c = 62 := UInt8.toNat_inj.1 (by rw [d62]; rfl)
    subst hd
    go_enter Tryd.func29, Tryd.ntmps29
    go_wp2
    go_ret
    exact ⟨rfl, rfl⟩
  have g62 : (((c.toNat : Nat) : Int) == 62) = false := by simp; omega
  have n62 : ¬ c = 62 := fun e => d62 (by rw [e]; rfl)
  have h : Ppr.valueC c = Ppr.textC c := by unfold Ppr.valueC; rw [if_neg n34, if_neg n9, if_neg n10, if_neg n62]
  rw [h]
  go_enter Tryd.func29, Tryd.ntmps29
  go_wp2_with (go_at_call 28; refine (text_any c _).mono ?_; rintro e w1 ⟨rfl, rfl⟩)
  go_ret
  exact ⟨rfl, rfl⟩
set_option maxRecDepth 100000 in
set_option maxHeartbeats 2000000 in
theorem written_text (s : ByteArray) (w : World) (hs : s.size ≤ 10000000000) : Calls Tryd.prog 27 #[.string s, .func (.func 28) #[] #[]] w fun e w' => e = .returned (.string ⟨(Ppr.putL Ppr.textC s.data.toList).toArray⟩) ∧ Below w.heap.size w w' := by
  have HX := Kept.mk (fun k h => byte_get s k h)
  have hl := size_len s
  obtain ⟨L, hL⟩ : ∃ L, s.data.toList = L := ⟨_, rfl⟩
  rw [hL] at HX hl ⊢
  clear hL
  have HF := Kept.mk (bld_fresh w)
  have HA : Kept (Below w.heap.size w (w.alloc (.cells #[.pointer none, .slice none 0 0] 45))) := ⟨(Below.refl _ _).alloc (Nat.le_refl _) _⟩
  go_enter Tryd.func27, Tryd.ntmps27
  go_wp2
  go_loopw [10] (fun i wx => ∃ k : Nat, k ≤ s.size ∧ i = .int .i64 (k : Int) ∧ Kept (Is 45 [] [] w.heap.size w.heap.size (Ppr.putL Ppr.textC (L.take k)) wx) ∧ Kept (Below w.heap.size w wx)) (fun i _ => s.size - (intOf i).toNat)
  case atStart => exact ⟨0, by omega, rfl, HF, HA⟩
  case round =>
    clear HF HA
    obtain ⟨k, hk, rfl, HO, HB⟩ := hrel
    have k0 : (0 : Int) ≤ (k : Int) := by omega
    by_cases hlt : k < s.size
    · have k1 : (k : Int) < (s.size : Int) := by omega
      have hx := HX.out k hlt
      generalize hcc : s[k] = c at hx
      have htk : Ppr.putL Ppr.textC (L.take (k + 1)) = Ppr.putL Ppr.textC (L.take k) ++ Ppr.putC Ppr.textC c := by
        rw [List.take_add_one, hx]
        exact Ppr.putL_snoc _ _ _
      have hln := Ppr.putL_len Ppr.textC_len (L.take k)
      rw [List.length_take] at hln
      have hal : (Ppr.putL Ppr.textC (L.take k)).length ≤ 60000000000 := by omega
      have CT := Kept.mk (text_any c)
      have hR6 := Ppr.textC_len c
      have hput : Ppr.putC Ppr.textC c = if Ppr.textC c = [] then [c] else Ppr.textC c := rfl
      rw [hput] at htk
      generalize Ppr.putL Ppr.textC (L.take k) = acc at HO htk hal
      generalize Ppr.textC c = R at CT htk hR6
      have HTK := Kept.mk htk
      clear htk hput hln hx
      cases R with
      | nil =>
        have CB := Kept.mk (fun wx (h : Is 45 [] [] w.heap.size w.heap.size acc wx) => byte_any (B := w.heap.size) c bld_ne (Nat.le_refl _) h lies_own (by omega))
        go_wp2_with (first
          | (go_at_call 28; refine (CT.out _).mono ?_; rintro e w5 ⟨rfl, rfl⟩)
          | (go_at_call 37; refine (CB.out _ HO.out).mono ?_; rintro e w6 ⟨rfl, h6, hb6, _⟩; have O6 := Kept.mk h6; have B6 := Kept.mk (HB.out.trans hb6); clear h6 hb6))
        go_roundw
        case rel => exact ⟨k + 1, by omega, by go_num, ⟨by rw [HTK.out]; simpa using O6.out⟩, B6⟩
        case measure => simp [intOf]; omega
      | cons r0 R =>
        have CS := Kept.mk (fun wx (h : Is 45 [] [] w.heap.size w.heap.size acc wx) => write_any (B := w.heap.size) ⟨(r0 :: R).toArray⟩ bld_ne (Nat.le_refl _) h lies_own (by rw [Lib.size_mk]; omega))
        go_wp2_with (first
          | (go_at_call 28; refine (CT.out _).mono ?_; rintro e w5 ⟨rfl, rfl⟩)
          | (go_at_call 36; refine (CS.out _ HO.out).mono ?_; rintro e w6 ⟨rfl, h6, hb6, _⟩; have O6 := Kept.mk h6; have B6 := Kept.mk (HB.out.trans hb6); clear h6 hb6))
        go_roundw
        case rel => exact ⟨k + 1, by omega, by go_num, ⟨by rw [HTK.out]; simpa using O6.out⟩, B6⟩
        case measure => simp [intOf]; omega
    · obtain rfl : k = s.size := by omega
      rw [List.take_of_length_le (by omega)] at HO
      have CS := Kept.mk (string_any (Nat.le_refl _) HO.out)
      go_wp2_with (go_at_call 22; refine CS.out.mono ?_; rintro e w5 ⟨rfl, _, hb5, _⟩; have B5 := Kept.mk (HB.out.trans hb5); clear hb5)
      go_ret
      exact ⟨rfl, B5.out⟩
set_option maxRecDepth 100000 in
set_option maxHeartbeats 2000000 in
theorem written_value (s : ByteArray) (w : World) (hs : s.size ≤ 10000000000) : Calls Tryd.prog 27 #[.string s, .func (.func 29) #[] #[]] w fun e w' => e = .returned (.string ⟨(Ppr.putL Ppr.valueC s.data.toList).toArray⟩) ∧ Below w.heap.size w w' := by
  have HX := Kept.mk (fun k h => byte_get s k h)
  have hl := size_len s
  obtain ⟨L, hL⟩ : ∃ L, s.data.toList = L := ⟨_, rfl⟩
  rw [hL] at HX hl ⊢
  clear hL
  have HF := Kept.mk (bld_fresh w)
  have HA : Kept (Below w.heap.size w (w.alloc (.cells #[.pointer none, .slice none 0 0] 45))) := ⟨(Below.refl _ _).alloc (Nat.le_refl _) _⟩
  go_enter Tryd.func27, Tryd.ntmps27
  go_wp2
  go_loopw [10] (fun i wx => ∃ k : Nat, k ≤ s.size ∧ i = .int .i64 (k : Int) ∧ Kept (Is 45 [] [] w.heap.size w.heap.size (Ppr.putL Ppr.valueC (L.take k)) wx) ∧ Kept (Below w.heap.size w wx)) (fun i _ => s.size - (intOf i).toNat)
  case atStart => exact ⟨0, by omega, rfl, HF, HA⟩
  case round =>
    clear HF HA
    obtain ⟨k, hk, rfl, HO, HB⟩ := hrel
    have k0 : (0 : Int) ≤ (k : Int) := by omega
    by_cases hlt : k < s.size
    · have k1 : (k : Int) < (s.size : Int) := by omega
      have hx := HX.out k hlt
      generalize hcc : s[k] = c at hx
      have htk : Ppr.putL Ppr.valueC (L.take (k + 1)) = Ppr.putL Ppr.valueC (L.take k) ++ Ppr.putC Ppr.valueC c := by
        rw [List.take_add_one, hx]
        exact Ppr.putL_snoc _ _ _
      have hln := Ppr.putL_len Ppr.valueC_len (L.take k)
      rw [List.length_take] at hln
      have hal : (Ppr.putL Ppr.valueC (L.take k)).length ≤ 60000000000 := by omega
      have CT := Kept.mk (value_any c)
      have hR6 := Ppr.valueC_len c
      have hput : Ppr.putC Ppr.valueC c = if Ppr.valueC c = [] then [c] else Ppr.valueC c := rfl
      rw [hput] at htk
      generalize Ppr.putL Ppr.valueC (L.take k) = acc at HO htk hal
      generalize Ppr.valueC c = R at CT htk hR6
      have HTK := Kept.mk htk
      clear htk hput hln hx
      cases R with
      | nil =>
        have CB := Kept.mk (fun wx (h : Is 45 [] [] w.heap.size w.heap.size acc wx) => byte_any (B := w.heap.size) c bld_ne (Nat.le_refl _) h lies_own (by omega))
        go_wp2_with (first
          | (go_at_call 29; refine (CT.out _).mono ?_; rintro e w5 ⟨rfl, rfl⟩)
          | (go_at_call 37; refine (CB.out _ HO.out).mono ?_; rintro e w6 ⟨rfl, h6, hb6, _⟩; have O6 := Kept.mk h6; have B6 := Kept.mk (HB.out.trans hb6); clear h6 hb6))
        go_roundw
        case rel => exact ⟨k + 1, by omega, by go_num, ⟨by rw [HTK.out]; simpa using O6.out⟩, B6⟩
        case measure => simp [intOf]; omega
      | cons r0 R =>
        have CS := Kept.mk (fun wx (h : Is 45 [] [] w.heap.size w.heap.size acc wx) => write_any (B := w.heap.size) ⟨(r0 :: R).toArray⟩ bld_ne (Nat.le_refl _) h lies_own (by rw [Lib.size_mk]; omega))
        go_wp2_with (first
          | (go_at_call 29; refine (CT.out _).mono ?_; rintro e w5 ⟨rfl, rfl⟩)
          | (go_at_call 36; refine (CS.out _ HO.out).mono ?_; rintro e w6 ⟨rfl, h6, hb6, _⟩; have O6 := Kept.mk h6; have B6 := Kept.mk (HB.out.trans hb6); clear h6 hb6))
        go_roundw
        case rel => exact ⟨k + 1, by omega, by go_num, ⟨by rw [HTK.out]; simpa using O6.out⟩, B6⟩
        case measure => simp [intOf]; omega
    · obtain rfl : k = s.size := by omega
      rw [List.take_of_length_le (by omega)] at HO
      have CS := Kept.mk (string_any (Nat.le_refl _) HO.out)
      go_wp2_with (go_at_call 22; refine CS.out.mono ?_; rintro e w5 ⟨rfl, _, hb5, _⟩; have B5 := Kept.mk (HB.out.trans hb5); clear hb5)
      go_ret
      exact ⟨rfl, B5.out⟩
set_option maxRecDepth 100000 in
theorem Escape_any (s : ByteArray) (w : World) (hs : s.size ≤ 10000000000) : Calls Tryd.prog 14 #[.string s] w fun e w' => e = .returned (.string ⟨(Ppr.escL s.data.toList).toArray⟩) ∧ Below w.heap.size w w' := by
  have CW := Kept.mk (written_text s w hs)
  unfold Ppr.escL
  go_enter Tryd.func14, Tryd.ntmps14
  go_wp2_with (go_at_call 27; refine CW.out.mono ?_; rintro e w1 ⟨rfl, hb1⟩)
  go_ret
  exact ⟨rfl, hb1⟩
theorem quo_cat (l : List UInt8) : (⟨#[34]⟩ : ByteArray) ++ ⟨l.toArray⟩ ++ ⟨#[34]⟩ = ⟨(34 :: (l ++ [34])).toArray⟩ := by
  apply ByteArray.ext
  apply Array.ext'
  simp
set_option maxRecDepth 100000 in
theorem Quote_any (s : ByteArray) (w : World) (hs : s.size ≤ 10000000000) : Calls Tryd.prog 16 #[.string s] w fun e w' => e = .returned (.string ⟨(Ppr.quoL s.data.toList).toArray⟩) ∧ Below w.heap.size w w' := by
  have hln := Ppr.putL_len Ppr.valueC_len s.data.toList
  rw [size_len] at hln
  have hcat := quo_cat (Ppr.putL Ppr.valueC s.data.toList)
  have hv := written_value s w hs
  unfold Ppr.quoL
  rw [← hcat]
  have hz : (⟨(Ppr.putL Ppr.valueC s.data.toList).toArray⟩ : ByteArray).size ≤ 60000000000 := by rw [Lib.size_mk]; omega
  generalize (⟨(Ppr.putL Ppr.valueC s.data.toList).toArray⟩ : ByteArray) = D at hv hz
  have CW := Kept.mk hv
  have z1 : ¬ 9223372036854775807 < 1 + D.size := by omega
  have z2 : ¬ 9223372036854775807 < 1 + D.size + 1 := by omega
  clear hcat hv hln
  go_enter Tryd.func16, Tryd.ntmps16
  go_wp2_with (go_at_call 27; refine CW.out.mono ?_; rintro e w1 ⟨rfl, hb1⟩)
  go_ret
  exact ⟨rfl, hb1⟩
end Go.Proofs.YtkjodleggfacbaaDoor.Wpr
