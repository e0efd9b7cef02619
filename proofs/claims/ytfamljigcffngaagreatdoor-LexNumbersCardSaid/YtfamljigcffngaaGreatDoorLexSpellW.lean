/- The walk over the program's Spell (chapter 22). -/
import Derived.Test.YtfamljigcffngaaGreatDoorLexWalksE
import Derived.Deep.RegionHeld3
import Derived.Deep.RegionWith
import Derived.Laws.Rows
import Derived.Lib.SplitLaws
namespace Go.Proofs.YtfamljigcffngaaGreatDoor.Wlx
open Go Go.RowKit Go.Proofs.YtfamljigcffngaaGreatDoor.Wch

/-- what Spell hands back -/
def spR : Option (List UInt8) → Value
  | none => .tuple #[.string ⟨#[]⟩, .bool false]
  | some l => .tuple #[.string ⟨l.toArray⟩, .bool true]
theorem ret_sp {a b : ByteArray} {x y : Bool} (h : a = b) (h' : x = y) : Ending.returned (.tuple #[.string a, .bool x]) = .returned (.tuple #[.string b, .bool y]) := by rw [h, h']
theorem held_keep {b : Nat} {K N : Int} {x : ByteArray} {w w1 w2 : World} (h : (w1.cell? ⟨b, 0, none⟩ = some (.int .u8 K) ∧ w1.cell? ⟨b, 1, none⟩ = some (.string x) ∧ w1.cell? ⟨b, 2, none⟩ = some (.int .i64 N) ∧ Below w.heap.size w w1)) (h' : Below w1.heap.size w1 w2) : (w2.cell? ⟨b, 0, none⟩ = some (.int .u8 K) ∧ w2.cell? ⟨b, 1, none⟩ = some (.string x) ∧ w2.cell? ⟨b, 2, none⟩ = some (.int .i64 N) ∧ Below w.heap.size w w2) :=
  ⟨cell_keep h' h.1, cell_keep h' h.2.1, cell_keep h' h.2.2.1, below_any h.2.2.2 h'⟩
theorem held_start (w : World) (K N A : Int) (x : ByteArray) : (fun wx : World => wx.cell? ⟨w.heap.size, 0, none⟩ = some (.int .u8 K) ∧ wx.cell? ⟨w.heap.size, 1, none⟩ = some (.string x) ∧ wx.cell? ⟨w.heap.size, 2, none⟩ = some (.int .i64 N) ∧ Below w.heap.size w wx) ((w.alloc (.cells #[.int .u8 K, .string x, .int .i64 N, .int .i64 A] 36)).alloc (.cells #[.int .u8 K, .string x, .int .i64 N, .int .i64 0] 36)) := by
  have hb1 : Below (w.alloc (.cells #[.int .u8 K, .string x, .int .i64 N, .int .i64 A] 36)).heap.size (w.alloc (.cells #[.int .u8 K, .string x, .int .i64 N, .int .i64 A] 36)) ((w.alloc (.cells #[.int .u8 K, .string x, .int .i64 N, .int .i64 A] 36)).alloc (.cells #[.int .u8 K, .string x, .int .i64 N, .int .i64 0] 36)) := (Below.refl _ _).alloc (Nat.le_refl _) _
  refine ⟨cell_keep hb1 (by rw [World.cell?_alloc_new]; rfl), cell_keep hb1 (by rw [World.cell?_alloc_new]; rfl), cell_keep hb1 (by rw [World.cell?_alloc_new]; rfl), below_any ((Below.refl _ _).alloc (Nat.le_refl _) _) hb1⟩
theorem below_drew {w w1 : World} (h : Below w.heap.size w w1) : Below w.heap.size w w1.drew := h.trans ⟨rfl, rfl, rfl, Nat.le_refl _, fun _ _ => rfl⟩
theorem spell_0 (x : ByteArray) (N A : Int) (w : World) :
    Calls Tryz.prog 12 #[.agg #[.int .u8 0, .string x, .int .i64 N, .int .i64 A]] w fun e w' => e = .returned (.tuple #[.string ⟨#[]⟩, .bool (decide (x.toList = [] ∧ N = 0))]) ∧ Below w.heap.size w w' := by
  go_enter Tryz.func12, Tryz.ntmps12
  go_wp2_with (fail)
  all_goals go_ret2
  all_goals exact ⟨by simp [*], ((Below.refl _ _).alloc (Nat.le_refl _) _).alloc (by simp) _⟩
theorem spell_6 (k : Int) (x : ByteArray) (N A : Int) (w : World) (h0 : (k == 0) = false) (h1 : (k == 1) = false) (h2 : (k == 2) = false) (h3 : (k == 3) = false) (h4 : (k == 4) = false) (h5 : (k == 5) = false) :
    Calls Tryz.prog 12 #[.agg #[.int .u8 k, .string x, .int .i64 N, .int .i64 A]] w fun e w' => e = .returned (.tuple #[.string ⟨#[]⟩, .bool false]) ∧ Below w.heap.size w w' := by
  go_enter Tryz.func12, Tryz.ntmps12
  go_wp2_with (fail)
  go_ret2
  exact ⟨rfl, ((Below.refl _ _).alloc (Nat.le_refl _) _).alloc (by simp) _⟩
set_option maxRecDepth 100000 in
set_option maxHeartbeats 4000000 in
theorem spell_1 (x : ByteArray) (N A : Int) (w : World) (hx : x.size ≤ 100000) (ht : Env w) (nm z : Bool) (hnm : Pch.nameL x.data.toList = nm) (hz : (N == 0) = z) :
    Calls Tryz.prog 12 #[.agg #[.int .u8 1, .string x, .int .i64 N, .int .i64 A]] w fun e w' => e = .returned (.tuple #[.string (if (nm && z) = true then x else ⟨#[]⟩), .bool (nm && z)]) ∧ Below w.heap.size w w' := by
  have HT := Kept.mk ht
  have cN := fun wx hx' => nametext_any x wx (by omega) hx'
  rw [hnm] at cN
  have CN := Kept.mk cN
  clear ht cN hnm
  go_enter Tryz.func12, Tryz.ntmps12
  go_wp2_with (fail)
  have hS := held_start w 1 N A x
  generalize (w.alloc (.cells #[.int .u8 1, .string x, .int .i64 N, .int .i64 A] 36)).alloc (.cells #[.int .u8 1, .string x, .int .i64 N, .int .i64 0] 36) = W at hS ⊢
  have HS := Kept.mk hS
  clear hS
  cases nm
  · obtain ⟨k0, k1, k2, k3⟩ := HS.out
    first
      | (go_region_with (first
      | (go_at_call 27; refine (CN.out _ (HT.out.ch.below (below_drew HS.out.2.2.2))).mono ?_; rintro e w2 ⟨rfl, hb2⟩; obtain ⟨m0, m1, m2, m3⟩ := held_keep (held_keep HS.out (below_drew (Below.refl _ _))) hb2)))
      | fail
    all_goals
      go_wp2
      go_ret2
      exact ⟨rfl, by assumption⟩
  all_goals cases z
  all_goals
    go_region_held3 (fun wx => wx.cell? ⟨w.heap.size, 0, none⟩ = some (.int .u8 1) ∧ wx.cell? ⟨w.heap.size, 1, none⟩ = some (.string x) ∧ wx.cell? ⟨w.heap.size, 2, none⟩ = some (.int .i64 N) ∧ Below w.heap.size w wx) (first
      | assumption
      | exact HS.out
      | exact held_keep HS.out (below_drew (Below.refl _ _))
      | exact held_keep (by assumption) (by assumption)) (first
      | (go_at_call 27; refine (CN.out _ (HT.out.ch.below (And.right (And.right (And.right (by assumption)))))).mono ?_; rintro e w2 ⟨rfl, hb2⟩))
    go_wp2
    go_ret2
    exact ⟨rfl, And.right (And.right (And.right (by assumption)))⟩
set_option maxRecDepth 100000 in
set_option maxHeartbeats 4000000 in
theorem spell_4 (x : ByteArray) (N A : Int) (w : World) (hx : x.size ≤ 100000) (ht : Env w) (nm z : Bool) (hnm : Pch.nameL x.data.toList = nm) (hz : (N == 0) = z) :
    Calls Tryz.prog 12 #[.agg #[.int .u8 4, .string x, .int .i64 N, .int .i64 A]] w fun e w' => e = .returned (.tuple #[.string (if (nm && z) = true then (⟨#[36]⟩ : ByteArray) ++ x else ⟨#[]⟩), .bool (nm && z)]) ∧ Below w.heap.size w w' := by
  have HT := Kept.mk ht
  have cN := fun wx hx' => nametext_any x wx (by omega) hx'
  rw [hnm] at cN
  have CN := Kept.mk cN
  clear ht cN hnm
  go_enter Tryz.func12, Tryz.ntmps12
  go_wp2_with (fail)
  have hS := held_start w 4 N A x
  generalize (w.alloc (.cells #[.int .u8 4, .string x, .int .i64 N, .int .i64 A] 36)).alloc (.cells #[.int .u8 4, .string x, .int .i64 N, .int .i64 0] 36) = W at hS ⊢
  have HS := Kept.mk hS
  clear hS
  cases nm
  · obtain ⟨k0, k1, k2, k3⟩ := HS.out
    first
      | (go_region_with (first
      | (go_at_call 27; refine (CN.out _ (HT.out.ch.below (below_drew HS.out.2.2.2))).mono ?_; rintro e w2 ⟨rfl, hb2⟩; obtain ⟨m0, m1, m2, m3⟩ := held_keep (held_keep HS.out (below_drew (Below.refl _ _))) hb2)))
      | fail
    all_goals
      go_wp2
      go_ret2
      exact ⟨rfl, by assumption⟩
  all_goals cases z
  all_goals
    go_region_held3 (fun wx => wx.cell? ⟨w.heap.size, 0, none⟩ = some (.int .u8 4) ∧ wx.cell? ⟨w.heap.size, 1, none⟩ = some (.string x) ∧ wx.cell? ⟨w.heap.size, 2, none⟩ = some (.int .i64 N) ∧ Below w.heap.size w wx) (first
      | assumption
      | exact HS.out
      | exact held_keep HS.out (below_drew (Below.refl _ _))
      | exact held_keep (by assumption) (by assumption)) (first
      | (go_at_call 27; refine (CN.out _ (HT.out.ch.below (And.right (And.right (And.right (by assumption)))))).mono ?_; rintro e w2 ⟨rfl, hb2⟩))
    go_wp2
    go_ret2
    exact ⟨rfl, And.right (And.right (And.right (by assumption)))⟩
set_option maxRecDepth 100000 in
set_option maxHeartbeats 4000000 in
theorem spell_2a (x : ByteArray) (N A : Int) (w : World) (ht : Env w) (hN0 : -9223372036854775808 ≤ N) (hN1 : N ≤ 9223372036854775807) (hp : 0 ≤ N) (hxe : x.toList = []) (F : ByteArray) (hF : F = ⟨(Lib.itoa N).toArray⟩) :
    Calls Tryz.prog 12 #[.agg #[.int .u8 2, .string x, .int .i64 N, .int .i64 A]] w fun e w' => e = .returned (.tuple #[.string F, .bool true]) ∧ Below w.heap.size w w' := by
  have HT := Kept.mk ht
  have cN := fun wx hx' => format_any N wx hN0 hN1 hx'
  rw [← hF] at cN
  have CN := Kept.mk cN
  clear ht cN hN0 hN1 hF
  go_enter Tryz.func12, Tryz.ntmps12
  go_wp2_with (fail)
  have hS := held_start w 2 N A x
  generalize (w.alloc (.cells #[.int .u8 2, .string x, .int .i64 N, .int .i64 A] 36)).alloc (.cells #[.int .u8 2, .string x, .int .i64 N, .int .i64 0] 36) = W at hS ⊢
  have HS := Kept.mk hS
  clear hS
  go_region_held3 (fun wx => wx.cell? ⟨w.heap.size, 0, none⟩ = some (.int .u8 2) ∧ wx.cell? ⟨w.heap.size, 1, none⟩ = some (.string x) ∧ wx.cell? ⟨w.heap.size, 2, none⟩ = some (.int .i64 N) ∧ Below w.heap.size w wx) (first
      | assumption
      | exact HS.out
      | exact held_keep HS.out (below_drew (Below.refl _ _))
      | exact held_keep (by assumption) (by assumption)) (first
    | (go_at_call 28; refine (CN.out _ (HT.out.below (And.right (And.right (And.right (by assumption)))))).mono ?_; rintro e w2 ⟨rfl, hb2⟩))
  go_wp2
  go_ret2
  exact ⟨rfl, And.right (And.right (And.right (by assumption)))⟩
set_option maxRecDepth 100000 in
set_option maxHeartbeats 4000000 in
theorem spell_2b (x : ByteArray) (N A : Int) (w : World) (ht : Env w) (hN0 : -9223372036854775808 ≤ N) (hN1 : N ≤ 9223372036854775807) (hp : 0 ≤ N) (hxe : x.toList.isEmpty = false) (F : ByteArray) (hF : F = ⟨(Lib.itoa N).toArray⟩) :
    Calls Tryz.prog 12 #[.agg #[.int .u8 2, .string x, .int .i64 N, .int .i64 A]] w fun e w' => e = .returned (.tuple #[.string ⟨#[]⟩, .bool false]) ∧ Below w.heap.size w w' := by
  have HT := Kept.mk ht
  have cN := fun wx hx' => format_any N wx hN0 hN1 hx'
  rw [← hF] at cN
  have CN := Kept.mk cN
  clear ht cN hN0 hN1 hF
  go_enter Tryz.func12, Tryz.ntmps12
  go_wp2_with (fail)
  have hS := held_start w 2 N A x
  generalize (w.alloc (.cells #[.int .u8 2, .string x, .int .i64 N, .int .i64 A] 36)).alloc (.cells #[.int .u8 2, .string x, .int .i64 N, .int .i64 0] 36) = W at hS ⊢
  have HS := Kept.mk hS
  clear hS
  go_region_held3 (fun wx => wx.cell? ⟨w.heap.size, 0, none⟩ = some (.int .u8 2) ∧ wx.cell? ⟨w.heap.size, 1, none⟩ = some (.string x) ∧ wx.cell? ⟨w.heap.size, 2, none⟩ = some (.int .i64 N) ∧ Below w.heap.size w wx) (first
      | assumption
      | exact HS.out
      | exact held_keep HS.out (below_drew (Below.refl _ _))
      | exact held_keep (by assumption) (by assumption)) (first
    | (go_at_call 28; refine (CN.out _ (HT.out.below (And.right (And.right (And.right (by assumption)))))).mono ?_; rintro e w2 ⟨rfl, hb2⟩))
  go_wp2
  go_ret2
  exact ⟨rfl, And.right (And.right (And.right (by assumption)))⟩
set_option maxRecDepth 100000 in
set_option maxHeartbeats 4000000 in
theorem spell_2c (x : ByteArray) (N A : Int) (w : World) (ht : Env w) (hN0 : -9223372036854775808 ≤ N) (hN1 : N ≤ 9223372036854775807) (hp : N < 0) (F : ByteArray) (hF : F = ⟨(Lib.itoa N).toArray⟩) :
    Calls Tryz.prog 12 #[.agg #[.int .u8 2, .string x, .int .i64 N, .int .i64 A]] w fun e w' => e = .returned (.tuple #[.string ⟨#[]⟩, .bool false]) ∧ Below w.heap.size w w' := by
  have HT := Kept.mk ht
  have cN := fun wx hx' => format_any N wx hN0 hN1 hx'
  rw [← hF] at cN
  have CN := Kept.mk cN
  clear ht cN hN0 hN1 hF
  go_enter Tryz.func12, Tryz.ntmps12
  go_wp2_with (fail)
  have hS := held_start w 2 N A x
  generalize (w.alloc (.cells #[.int .u8 2, .string x, .int .i64 N, .int .i64 A] 36)).alloc (.cells #[.int .u8 2, .string x, .int .i64 N, .int .i64 0] 36) = W at hS ⊢
  have HS := Kept.mk hS
  clear hS
  obtain ⟨k0, k1, k2, k3⟩ := HS.out
  first
    | (go_region_with (first
    | (go_at_call 28; refine (CN.out _ (HT.out.below (below_drew HS.out.2.2.2))).mono ?_; rintro e w2 ⟨rfl, hb2⟩; obtain ⟨m0, m1, m2, m3⟩ := held_keep (held_keep HS.out (below_drew (Below.refl _ _))) hb2)))
    | fail
  all_goals
    go_wp2
    go_ret2
    exact ⟨rfl, by assumption⟩
set_option maxRecDepth 100000 in
set_option maxHeartbeats 4000000 in
theorem spell_5a (x : ByteArray) (N A : Int) (w : World) (ht : Env w) (hz : (N == 0) = false) :
    Calls Tryz.prog 12 #[.agg #[.int .u8 5, .string x, .int .i64 N, .int .i64 A]] w fun e w' => e = .returned (.tuple #[.string ⟨#[]⟩, .bool false]) ∧ Below w.heap.size w w' := by
  have HT := Kept.mk ht
  clear ht
  go_enter Tryz.func12, Tryz.ntmps12
  go_upto_region 17 with (fail)
  have hS := held_start w 5 N A x
  generalize (w.alloc (.cells #[.int .u8 5, .string x, .int .i64 N, .int .i64 A] 36)).alloc (.cells #[.int .u8 5, .string x, .int .i64 N, .int .i64 0] 36) = W at hS ⊢
  obtain ⟨k0, k1, k2, k3⟩ := hS
  obtain ⟨ts, fs, hsg⟩ := (HT.out.below k3).sgn
  have HSG := Kept.mk hsg
  clear hsg
  go_wp2_with (refine wpList_load_row rfl _ _ rfl 0 rfl ts signsA fs _ HSG.out Tryz.underlying84 rfl info_signs ?_)
  go_loop [5, 6, 73] (fun s ok i => ∃ k : Nat, k ≤ 24 ∧ i = .int .i64 k ∧ s = .string ⟨#[]⟩ ∧ ok = .bool false) (fun _ _ i => 24 - (intOf i).toNat)
  case atStart => exact ⟨0, by omega, rfl, rfl, rfl⟩
  case round =>
    obtain ⟨k, hk, rfl, rfl, rfl⟩ := hrel
    by_cases hlt : k < 24
    · obtain ⟨y, hy⟩ : ∃ x, Plx.signsL[k]? = some x := ⟨Plx.signsL[k]'hlt, List.getElem?_eq_getElem hlt⟩
      have hix := fun w => sign_index k y w hy
      have i0 : (0 : Int) ≤ (k : Int) := by omega
      clear hy
      go_wp2
      all_goals
        go_round
        case rel => exact ⟨k + 1, by omega, by go_num, rfl, rfl⟩
        case measure => simp [intOf]; omega
    · obtain rfl : k = 24 := by omega
      go_wp2
      go_ret2
      exact ⟨rfl, k3⟩
set_option maxRecDepth 100000 in
set_option maxHeartbeats 4000000 in
theorem spell_5b (x : ByteArray) (N A : Int) (w : World) (ht : Env w) (hz : (N == 0) = true) (r : Bool) (hr : decide (x.data.toList ∈ Plx.signsL) = r) :
    Calls Tryz.prog 12 #[.agg #[.int .u8 5, .string x, .int .i64 N, .int .i64 A]] w fun e w' => e = .returned (.tuple #[.string (if r = true then x else ⟨#[]⟩), .bool r]) ∧ Below w.heap.size w w' := by
  have HT := Kept.mk ht
  clear ht
  have HR := Kept.mk hr
  clear hr
  go_enter Tryz.func12, Tryz.ntmps12
  go_upto_region 17 with (fail)
  have hS := held_start w 5 N A x
  generalize (w.alloc (.cells #[.int .u8 5, .string x, .int .i64 N, .int .i64 A] 36)).alloc (.cells #[.int .u8 5, .string x, .int .i64 N, .int .i64 0] 36) = W at hS ⊢
  obtain ⟨k0, k1, k2, k3⟩ := hS
  obtain ⟨ts, fs, hsg⟩ := (HT.out.below k3).sgn
  have HSG := Kept.mk hsg
  clear hsg
  go_wp2_with (refine wpList_load_row rfl _ _ rfl 0 rfl ts signsA fs _ HSG.out Tryz.underlying84 rfl info_signs ?_)
  go_loop [5, 6, 73] (fun s ok i => ∃ (k : Nat) (b : Bool), k ≤ 24 ∧ i = .int .i64 k ∧ s = .string (if b = true then x else ⟨#[]⟩) ∧ ok = .bool b ∧ Hid (decide (x.data.toList ∈ Plx.signsL.take k) = b)) (fun _ _ i => 24 - (intOf i).toNat)
  case atStart => exact ⟨0, false, by omega, rfl, rfl, rfl, by show _ = _; simp⟩
  case round =>
    obtain ⟨k, b, hk, rfl, rfl, rfl, H⟩ := hrel
    by_cases hlt : k < 24
    · obtain ⟨y, hy⟩ : ∃ x, Plx.signsL[k]? = some x := ⟨Plx.signsL[k]'hlt, List.getElem?_eq_getElem hlt⟩
      have hix := fun w => sign_index k y w hy
      have i0 : (0 : Int) ≤ (k : Int) := by omega
      have htk : Plx.signsL.take (k + 1) = Plx.signsL.take k ++ [y] := by rw [List.take_add_one, hy]; rfl
      have HK := Kept.mk htk
      clear hy htk
      by_cases hyx : y = x.data.toList
      · have hxy : (⟨y.toArray⟩ : ByteArray) = x := by rw [hyx]
        rw [hxy] at hix
        have H2 : Hid (decide (x.data.toList ∈ Plx.signsL.take (k + 1)) = true) := by show _ = _; rw [HK.out, ← hyx]; simp
        clear hxy H hyx HK
        go_wp2
        go_round
        case rel => exact ⟨k + 1, true, by omega, by go_num, rfl, rfl, H2.out⟩
        case measure => simp [intOf]; omega
      · have H2 : Hid (decide (x.data.toList ∈ Plx.signsL.take (k + 1)) = b) := by
          show _ = _
          rw [HK.out, ← H.out]
          have : ¬ x.data.toList = y := fun e => hyx e.symm
          simp [this]
        have hyx2 : ¬ y = x.toList := by rw [ByteArray.toList_eq]; exact hyx
        clear H hyx HK
        go_wp2
        go_round
        case rel => exact ⟨k + 1, b, by omega, by go_num, rfl, rfl, H2.out⟩
        case measure => simp [intOf]; omega
    · obtain rfl : k = 24 := by omega
      have hb : b = r := by rw [← HR.out, ← H.out]; rfl
      subst hb
      clear H HR
      cases b
      · go_wp2
        go_ret2
        exact ⟨rfl, k3⟩
      · go_wp2
        go_ret2
        exact ⟨rfl, k3⟩
theorem repl_call (x : ByteArray) (w : World) (hx : x.size ≤ 100000) (ht : Env w) : Calls Tryz.prog 29 #[.string x, .string ⟨#[34]⟩, .string ⟨#[34, 34]⟩] w fun e w' => e = .returned (.string ⟨(Lib.replaceAll x.data.toList [34] [34, 34]).toArray⟩) ∧ Below w.heap.size w w' := by
  obtain ⟨m, hm⟩ := ht.mx
  have hc : Lib.countB x ⟨#[34]⟩ ≤ x.size := Lib.countB_le ⟨#[34]⟩ (by decide) x.size x (Nat.le_refl _)
  have h2 : (⟨#[34, 34]⟩ : ByteArray).size = 2 := rfl
  exact Any.strings_ReplaceAll Tryz.lays155 Tryz.Builder_Extra_155 x ⟨#[34]⟩ ⟨#[34, 34]⟩ m w (by omega) hm (by decide) (by rw [h2]; omega)
set_option maxRecDepth 100000 in
set_option maxHeartbeats 4000000 in
theorem spell_3a (x : ByteArray) (N A : Int) (w : World) (hx : x.size ≤ 100000) (ht : Env w) (htx : Pch.textsL x.data.toList = true) (hl : (x.size : Int) ≤ 65536) (hz : (N == 0) = true) (D : ByteArray) (hD : D = ⟨(Lib.replaceAll x.data.toList [34] [34, 34]).toArray⟩) (hDs : D.size ≤ 1000000) :
    Calls Tryz.prog 12 #[.agg #[.int .u8 3, .string x, .int .i64 N, .int .i64 A]] w fun e w' => e = .returned (.tuple #[.string ((⟨#[34]⟩ : ByteArray) ++ D ++ ⟨#[34]⟩), .bool true]) ∧ Below w.heap.size w w' := by
  have HT := Kept.mk ht
  have cD := fun wx hx' => repl_call x wx hx hx'
  have cT := fun wx hx' => texts_any x wx (by omega) hx'
  rw [← hD] at cD
  rw [htx] at cT
  have CD := Kept.mk cD
  have CT := Kept.mk cT
  have n1 : ¬ 9223372036854775807 < 1 + D.size := by omega
  have n2 : ¬ 9223372036854775807 < 1 + D.size + 1 := by omega
  clear ht cD cT hD htx
  go_enter Tryz.func12, Tryz.ntmps12
  go_wp2_with (fail)
  have hS := held_start w 3 N A x
  generalize (w.alloc (.cells #[.int .u8 3, .string x, .int .i64 N, .int .i64 A] 36)).alloc (.cells #[.int .u8 3, .string x, .int .i64 N, .int .i64 0] 36) = W at hS ⊢
  have HS := Kept.mk hS
  clear hS
  go_region_held3 (fun wx => wx.cell? ⟨w.heap.size, 0, none⟩ = some (.int .u8 3) ∧ wx.cell? ⟨w.heap.size, 1, none⟩ = some (.string x) ∧ wx.cell? ⟨w.heap.size, 2, none⟩ = some (.int .i64 N) ∧ Below w.heap.size w wx) (first
      | assumption
      | exact HS.out
      | exact held_keep HS.out (below_drew (Below.refl _ _))
      | exact held_keep (by assumption) (by assumption)) (first
    | (go_at_call 29; refine (CD.out _ (HT.out.below (And.right (And.right (And.right (by assumption)))))).mono ?_; rintro e w2 ⟨rfl, hb2⟩)
    | (go_at_call 30; refine (CT.out _ (HT.out.ch.below (And.right (And.right (And.right (by assumption)))))).mono ?_; rintro e w2 ⟨rfl, hb2⟩))
  all_goals
    go_wp2
    go_ret2
    exact ⟨rfl, And.right (And.right (And.right (by assumption)))⟩
set_option maxRecDepth 100000 in
set_option maxHeartbeats 4000000 in
theorem spell_3b (x : ByteArray) (N A : Int) (w : World) (hx : x.size ≤ 100000) (ht : Env w) (htx : Pch.textsL x.data.toList = true) (hl : (x.size : Int) ≤ 65536) (hz : (N == 0) = false) (D : ByteArray) (hD : D = ⟨(Lib.replaceAll x.data.toList [34] [34, 34]).toArray⟩) (hDs : D.size ≤ 1000000) :
    Calls Tryz.prog 12 #[.agg #[.int .u8 3, .string x, .int .i64 N, .int .i64 A]] w fun e w' => e = .returned (.tuple #[.string ⟨#[]⟩, .bool false]) ∧ Below w.heap.size w w' := by
  have HT := Kept.mk ht
  have cD := fun wx hx' => repl_call x wx hx hx'
  have cT := fun wx hx' => texts_any x wx (by omega) hx'
  rw [← hD] at cD
  rw [htx] at cT
  have CD := Kept.mk cD
  have CT := Kept.mk cT
  have n1 : ¬ 9223372036854775807 < 1 + D.size := by omega
  have n2 : ¬ 9223372036854775807 < 1 + D.size + 1 := by omega
  clear ht cD cT hD htx
  go_enter Tryz.func12, Tryz.ntmps12
  go_wp2_with (fail)
  have hS := held_start w 3 N A x
  generalize (w.alloc (.cells #[.int .u8 3, .string x, .int .i64 N, .int .i64 A] 36)).alloc (.cells #[.int .u8 3, .string x, .int .i64 N, .int .i64 0] 36) = W at hS ⊢
  have HS := Kept.mk hS
  clear hS
  go_region_held3 (fun wx => wx.cell? ⟨w.heap.size, 0, none⟩ = some (.int .u8 3) ∧ wx.cell? ⟨w.heap.size, 1, none⟩ = some (.string x) ∧ wx.cell? ⟨w.heap.size, 2, none⟩ = some (.int .i64 N) ∧ Below w.heap.size w wx) (first
      | assumption
      | exact HS.out
      | exact held_keep HS.out (below_drew (Below.refl _ _))
      | exact held_keep (by assumption) (by assumption)) (first
    | (go_at_call 29; refine (CD.out _ (HT.out.below (And.right (And.right (And.right (by assumption)))))).mono ?_; rintro e w2 ⟨rfl, hb2⟩)
    | (go_at_call 30; refine (CT.out _ (HT.out.ch.below (And.right (And.right (And.right (by assumption)))))).mono ?_; rintro e w2 ⟨rfl, hb2⟩))
  all_goals
    go_wp2
    go_ret2
    exact ⟨rfl, And.right (And.right (And.right (by assumption)))⟩
set_option maxRecDepth 100000 in
set_option maxHeartbeats 4000000 in
theorem spell_3d (x : ByteArray) (N A : Int) (w : World) (hx : x.size ≤ 100000) (ht : Env w) (htx : Pch.textsL x.data.toList = false) (D : ByteArray) (hD : D = ⟨(Lib.replaceAll x.data.toList [34] [34, 34]).toArray⟩) (hDs : D.size ≤ 1000000) :
    Calls Tryz.prog 12 #[.agg #[.int .u8 3, .string x, .int .i64 N, .int .i64 A]] w fun e w' => e = .returned (.tuple #[.string ⟨#[]⟩, .bool false]) ∧ Below w.heap.size w w' := by
  have HT := Kept.mk ht
  have cD := fun wx hx' => repl_call x wx hx hx'
  have cT := fun wx hx' => texts_any x wx (by omega) hx'
  rw [← hD] at cD
  rw [htx] at cT
  have CD := Kept.mk cD
  have CT := Kept.mk cT
  have n1 : ¬ 9223372036854775807 < 1 + D.size := by omega
  have n2 : ¬ 9223372036854775807 < 1 + D.size + 1 := by omega
  clear ht cD cT hD htx
  go_enter Tryz.func12, Tryz.ntmps12
  go_wp2_with (fail)
  have hS := held_start w 3 N A x
  generalize (w.alloc (.cells #[.int .u8 3, .string x, .int .i64 N, .int .i64 A] 36)).alloc (.cells #[.int .u8 3, .string x, .int .i64 N, .int .i64 0] 36) = W at hS ⊢
  have HS := Kept.mk hS
  clear hS
  have hS0 := held_keep HS.out (below_drew (Below.refl _ _))
  have HS0 := Kept.mk hS0
  obtain ⟨k0, k1, k2, k3⟩ := HS.out
  clear hS0
  first
    | (go_region_with (first
    | (go_at_call 29; refine (CD.out _ (HT.out.below (w := w) (by first | assumption | exact HS0.out.2.2.2))).mono ?_; rintro e w2 ⟨rfl, hb2⟩; obtain ⟨m0, m1, m2, m3⟩ := held_keep ⟨by first | assumption | exact HS0.out.1, by first | assumption | exact HS0.out.2.1, by first | assumption | exact HS0.out.2.2.1, by first | assumption | exact HS0.out.2.2.2⟩ hb2)
    | (go_at_call 30; refine (CT.out _ (HT.out.ch.below (w := w) (by first | assumption | exact HS0.out.2.2.2))).mono ?_; rintro e w2 ⟨rfl, hb2⟩; obtain ⟨m0, m1, m2, m3⟩ := held_keep ⟨by first | assumption | exact HS0.out.1, by first | assumption | exact HS0.out.2.1, by first | assumption | exact HS0.out.2.2.1, by first | assumption | exact HS0.out.2.2.2⟩ hb2)))
    | fail
  all_goals
    go_wp2
    go_ret2
    exact ⟨rfl, by assumption⟩
end Go.Proofs.YtfamljigcffngaaGreatDoor.Wlx
