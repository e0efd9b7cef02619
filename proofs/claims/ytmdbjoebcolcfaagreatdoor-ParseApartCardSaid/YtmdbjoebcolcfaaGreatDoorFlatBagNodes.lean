/- The walks over the kit's putNodes, apart and ApartNodes. -/
import Derived.Test.YtmdbjoebcolcfaaGreatDoorFlatNilA
import Derived.Test.YtmdbjoebcolcfaaGreatDoorFlatNodes
namespace Go.Proofs.YtmdbjoebcolcfaaGreatDoor.Flt
open Go Go.RowKit Go.Proofs.YtmdbjoebcolcfaaGreatDoor.Kb

/-- a bag that holds lists of nodes alone -/
def bagC (v : Value) : Array Value := #[.slice none 0 0, .slice none 0 0, .slice none 0 0, .slice none 0 0, .slice none 0 0, v, .slice none 0 0, .slice none 0 0, .slice none 0 0, .slice none 0 0, .slice none 0 0, .slice none 0 0, .slice none 0 0, .slice none 0 0, .slice none 0 0, .slice none 0 0, .slice none 0 0, .slice none 0 0]
def IsBag (w : World) (D : Nat) (v : Value) : Prop := w.heap[D]? = some (.cells (bagC v) 73 (0, 0))
theorem IsBag.cell {w : World} {D : Nat} {v : Value} (h : IsBag w D v) (j : Nat) (u : Value) (hu : (bagC v)[j]? = some u) : w.cell? ⟨D, j, none⟩ = some u := by
  rw [cell_of_row w D j _ _ _ h]
  exact hu
theorem IsBag.lt {w : World} {D : Nat} {v : Value} (h : IsBag w D v) : D < w.heap.size := (Array.getElem?_eq_some_iff.1 h).1
theorem IsBag.below {w w1 : World} {D : Nat} {v : Value} (h : IsBag w D v) (hb : Below w.heap.size w w1) : IsBag w1 D v := (hb.block D h.lt).trans h
theorem IsBag.fro {w : World} {D : Nat} {v : Value} (h : IsBag w D v) (j : Nat) : w.frozen? ⟨D, j, none⟩ = false := Joins.unfrozen_of_block h _
theorem own_low {w : World} {base base' n k : Nat} {e : TypeId} {v : Value} {xs : List Value} (h : w.ownsRow base e k v n xs) (hb : base' ≤ base) : w.ownsRow base' e k v n xs :=
  ⟨h.1, h.2.imp id fun ⟨g, cap, cur, hv, hg, rest⟩ => ⟨g, cap, cur, hv, Nat.le_trans hb hg, rest⟩⟩
set_option maxRecDepth 100000 in
theorem putNodes_any (B0 D : Nat) (A : Option Addr) (m c : Nat) (v : Value) (n : Nat) (xs : List Value) (w : World) (hD : IsBag w D v) (hown : w.ownsRow B0 23 1 v n xs) (hn : n ≤ 100) (hlow : B0 ≤ D) (hne : v.ownBlock ≠ some D) :
    Calls Tryz.prog 26 #[.pointer (some ⟨D, 0, none⟩), .slice A m c] w fun e w' => ∃ v', e = .returned (.tuple #[]) ∧ IsBag w' D v' ∧ w'.ownsRow B0 23 1 v' (n + 1) (xs ++ [.slice A m c]) ∧ v'.ownBlock ≠ some D ∧ Below B0 w w' := by
  obtain ⟨iS, hiS, hzS, hsS, hbS⟩ := info_parts infoSNodes
  have c12 : w.cell? ⟨D, 5, none⟩ = some v := hD.cell 5 v rfl
  have f12 := hD.fro 5
  have hlt := hD.lt
  have HD := Kept.mk hD
  have HO := Kept.mk hown
  have HNE := Kept.mk hne
  clear hD hown hne
  go_enter Tryz.func26, Tryz.ntmps26
  go_wp2_with (at_builtin; refine wpList_append_own_at _ rfl (.tmp 8) (.tmp 10) 34 rfl B0 23 iS (.slice none 0 0) 1 24 Tryz.underlying34 hiS hzS hsS hbS rfl (by decide) v n xs (by rfl) (HO.out.alloc _) ⟨w.heap.size, 0, none⟩ 1 1 [.slice A m c] (by rfl) (by rfl) (World.news_of_block (heap_alloc_new _ _)) (by intro u hu; simp at hu; subst hu; rfl) (by unfold maxLen; omega) (by omega) (by simp; omega) ?_; intro v5 w5 hown5 hgrow5 _ hat5; obtain ⟨A5, c5, rfl, _⟩ := own_slice hown5; have hb5 := hgrow5.block D (by simp; omega) (fun e => HNE.out e.symm); have hD5 : IsBag w5 D v := hb5.trans ((HD.out.below ((Below.refl _ _).alloc (Nat.le_refl _) _))); have hlt5 := hD5.lt; have d12 : w5.cell? ⟨D, 5, none⟩ = some v := hD5.cell 5 v rfl; have g12 := hD5.fro 5; have HD5 := Kept.mk hD5; have HO5 := Kept.mk hown5; have HG5 := Kept.mk hgrow5; have HA5 := Kept.mk hat5; clear hD5 hown5 hgrow5 hat5 hb5 c12 f12)
  go_end0
  have hne5 : (Value.slice A5 (n + 1) c5).ownBlock ≠ some D := fun e => by
    rcases HA5.out with h | h
    · exact HNE.out (h.symm.trans e)
    · rw [e] at h
      injection h with h
      simp at h
      omega
  refine ⟨_, rfl, ?_, own_other HO5.out hne5, hne5, ?_⟩
  · exact Joins.block_setCell HD5.out _
  · exact (Below.grown ((Below.refl _ _).alloc (Nat.le_trans hlow (Nat.le_of_lt hlt)) _) HG5.out (by simp; omega) (fun b hb => (HO.out.lt b hb).1)).setCell hlow _
set_option maxRecDepth 100000 in
set_option maxHeartbeats 2000000 in
theorem apartNodes_any (B0 D K B C : Nat) (vs : List Value) (ns : Nat → Nat) (xs0 : Nat → List Value) (w : World) (hK : K ≤ 100) (hn : ∀ k, ns k ≤ 100000) (hD : IsBag w D (.slice (some ⟨B, 0, none⟩) K C)) (hB0 : B0 ≤ w.heap.size)
    (hown : w.ownsRow B0 23 1 (.slice (some ⟨B, 0, none⟩) K C) K vs) (hrow : ∀ (j : Nat) (v : Value), vs[j]? = some v → w.ownsRow B0 39 4 v (ns j) (xs0 j) ∧ v.ownBlock ≠ some D)
    (hfar : ∀ (j k : Nat) (u v : Value), j ≠ k → vs[j]? = some u → vs[k]? = some v → Far u v) :
    Calls Tryz.prog 27 #[.pointer (some ⟨D, 0, none⟩)] w fun e w' => e = .returned (.bool true) ∧ Below B0 w w' := by
  have H0 : Kept (IsBag w D (.slice (some ⟨B, 0, none⟩) K C)) := ⟨hD⟩
  have HO := Kept.mk hown
  have HR := Kept.mk hrow
  have HF := Kept.mk hfar
  have L0 : Kept (Below w.heap.size w w) := ⟨Below.refl _ _⟩
  clear hD hown hrow hfar
  go_enter Tryz.func27, Tryz.ntmps27
  have q0 : w.cell? ⟨D, 0, none⟩ = some (.slice none 0 0) := H0.out.cell 0 _ rfl
  go_wp2_with (fail)
  refine (nilWords _).mono ?_; rintro e w1 ⟨rfl, hb⟩
  have H1 := Kept.mk (H0.out.below hb)
  have L1 := Kept.mk (bel_step L0.out hb)
  clear hb q0
  have q1 : w1.cell? ⟨D, 1, none⟩ = some (.slice none 0 0) := H1.out.cell 1 _ rfl
  go_wp2_with (fail)
  refine (nilInts _).mono ?_; rintro e w2 ⟨rfl, hb⟩
  have H2 := Kept.mk (H1.out.below hb)
  have L2 := Kept.mk (bel_step L1.out hb)
  clear hb q1
  have q2 : w2.cell? ⟨D, 2, none⟩ = some (.slice none 0 0) := H2.out.cell 2 _ rfl
  go_wp2_with (fail)
  refine (nilLongs _).mono ?_; rintro e w3 ⟨rfl, hb⟩
  have H3 := Kept.mk (H2.out.below hb)
  have L3 := Kept.mk (bel_step L2.out hb)
  clear hb q2
  have q3 : w3.cell? ⟨D, 3, none⟩ = some (.slice none 0 0) := H3.out.cell 3 _ rfl
  go_wp2_with (fail)
  refine (nilTexts _).mono ?_; rintro e w4 ⟨rfl, hb⟩
  have H4 := Kept.mk (H3.out.below hb)
  have L4 := Kept.mk (bel_step L3.out hb)
  clear hb q3
  have q4 : w4.cell? ⟨D, 4, none⟩ = some (.slice none 0 0) := H4.out.cell 4 _ rfl
  go_wp2_with (fail)
  refine (nilBytes _).mono ?_; rintro e w5 ⟨rfl, hb⟩
  have H5 := Kept.mk (H4.out.below hb)
  have L5 := Kept.mk (bel_step L4.out hb)
  clear hb q4
  have q5 : w5.cell? ⟨D, 5, none⟩ = some (.slice (some ⟨B, 0, none⟩) K C) := H5.out.cell 5 _ rfl
  go_wp2_with (fail)
  have hcx : (cxNodes B0 K (.slice (some ⟨B, 0, none⟩) K C) vs ns w5).Ok := ⟨lenNodes, (by show 0 < 4; decide), cxNodes_ne, Nat.le_trans hB0 L5.out.size, HF.out⟩
  have hbs : Bas (cxNodes B0 K (.slice (some ⟨B, 0, none⟩) K C) vs ns w5) w5 := ⟨Kpt.refl _, own_below HO.out L5.out⟩
  have hfm : Fam (cxNodes B0 K (.slice (some ⟨B, 0, none⟩) K C) vs ns w5) xs0 w5 := fun j v hv => own_below (HR.out j v hv).1 L5.out
  refine (flatNodes_any B0 K B C vs ns xs0 w5 hK hn hcx hbs hfm).mono ?_; rintro e w6 ⟨rfl, hk⟩
  have hDk : ¬ May (cxNodes B0 K (.slice (some ⟨B, 0, none⟩) K C) vs ns w5) D := fun hm => by
    rcases hm with hm | ⟨j, v, hv, hvb⟩
    · have := H5.out.lt
      exact absurd hm (by show ¬ w5.heap.size ≤ D; omega)
    · exact (HR.out j v hv).2 hvb
  have H6 : Kept (IsBag w6 D (.slice (some ⟨B, 0, none⟩) K C)) := ⟨(hk.kp D H5.out.lt hDk).trans H5.out⟩
  have hb := hk.toB
  have L6 : Kept (Below B0 w w6) := ⟨(L5.out.mono hB0).trans hb⟩
  clear hcx hbs hfm hk hDk
  clear hb q5
  have q6 : w6.cell? ⟨D, 6, none⟩ = some (.slice none 0 0) := H6.out.cell 6 _ rfl
  go_wp2_with (fail)
  refine (nilFates _).mono ?_; rintro e w7 ⟨rfl, hb⟩
  have H7 := Kept.mk (H6.out.below hb)
  have L7 : Kept (Below B0 w w7) := ⟨L6.out.trans (hb.mono (Nat.le_trans hB0 L6.out.size))⟩
  clear hb q6
  have q7 : w7.cell? ⟨D, 7, none⟩ = some (.slice none 0 0) := H7.out.cell 7 _ rfl
  go_wp2_with (fail)
  refine (nilSpans _).mono ?_; rintro e w8 ⟨rfl, hb⟩
  have H8 := Kept.mk (H7.out.below hb)
  have L8 : Kept (Below B0 w w8) := ⟨L7.out.trans (hb.mono (Nat.le_trans hB0 L7.out.size))⟩
  clear hb q7
  have q8 : w8.cell? ⟨D, 8, none⟩ = some (.slice none 0 0) := H8.out.cell 8 _ rfl
  go_wp2_with (fail)
  refine (nilDirties _).mono ?_; rintro e w9 ⟨rfl, hb⟩
  have H9 := Kept.mk (H8.out.below hb)
  have L9 : Kept (Below B0 w w9) := ⟨L8.out.trans (hb.mono (Nat.le_trans hB0 L8.out.size))⟩
  clear hb q8
  have q9 : w9.cell? ⟨D, 9, none⟩ = some (.slice none 0 0) := H9.out.cell 9 _ rfl
  go_wp2_with (fail)
  refine (nilRecords _).mono ?_; rintro e w10 ⟨rfl, hb⟩
  have H10 := Kept.mk (H9.out.below hb)
  have L10 : Kept (Below B0 w w10) := ⟨L9.out.trans (hb.mono (Nat.le_trans hB0 L9.out.size))⟩
  clear hb q9
  have q10 : w10.cell? ⟨D, 10, none⟩ = some (.slice none 0 0) := H10.out.cell 10 _ rfl
  go_wp2_with (fail)
  refine (nilCells _).mono ?_; rintro e w11 ⟨rfl, hb⟩
  have H11 := Kept.mk (H10.out.below hb)
  have L11 : Kept (Below B0 w w11) := ⟨L10.out.trans (hb.mono (Nat.le_trans hB0 L10.out.size))⟩
  clear hb q10
  have q11 : w11.cell? ⟨D, 11, none⟩ = some (.slice none 0 0) := H11.out.cell 11 _ rfl
  go_wp2_with (fail)
  refine (nilHelds _).mono ?_; rintro e w12 ⟨rfl, hb⟩
  have H12 := Kept.mk (H11.out.below hb)
  have L12 : Kept (Below B0 w w12) := ⟨L11.out.trans (hb.mono (Nat.le_trans hB0 L11.out.size))⟩
  clear hb q11
  have q12 : w12.cell? ⟨D, 12, none⟩ = some (.slice none 0 0) := H12.out.cell 12 _ rfl
  go_wp2_with (fail)
  refine (nilTokens _).mono ?_; rintro e w13 ⟨rfl, hb⟩
  have H13 := Kept.mk (H12.out.below hb)
  have L13 : Kept (Below B0 w w13) := ⟨L12.out.trans (hb.mono (Nat.le_trans hB0 L12.out.size))⟩
  clear hb q12
  have q13 : w13.cell? ⟨D, 13, none⟩ = some (.slice none 0 0) := H13.out.cell 13 _ rfl
  go_wp2_with (fail)
  refine (nilExprs _).mono ?_; rintro e w14 ⟨rfl, hb⟩
  have H14 := Kept.mk (H13.out.below hb)
  have L14 : Kept (Below B0 w w14) := ⟨L13.out.trans (hb.mono (Nat.le_trans hB0 L13.out.size))⟩
  clear hb q13
  have q14 : w14.cell? ⟨D, 14, none⟩ = some (.slice none 0 0) := H14.out.cell 14 _ rfl
  go_wp2_with (fail)
  refine (nilItems _).mono ?_; rintro e w15 ⟨rfl, hb⟩
  have H15 := Kept.mk (H14.out.below hb)
  have L15 : Kept (Below B0 w w15) := ⟨L14.out.trans (hb.mono (Nat.le_trans hB0 L14.out.size))⟩
  clear hb q14
  have q15 : w15.cell? ⟨D, 15, none⟩ = some (.slice none 0 0) := H15.out.cell 15 _ rfl
  go_wp2_with (fail)
  refine (nilShowns _).mono ?_; rintro e w16 ⟨rfl, hb⟩
  have H16 := Kept.mk (H15.out.below hb)
  have L16 : Kept (Below B0 w w16) := ⟨L15.out.trans (hb.mono (Nat.le_trans hB0 L15.out.size))⟩
  clear hb q15
  have q16 : w16.cell? ⟨D, 16, none⟩ = some (.slice none 0 0) := H16.out.cell 16 _ rfl
  go_wp2_with (fail)
  refine (nilParts _).mono ?_; rintro e w17 ⟨rfl, hb⟩
  have H17 := Kept.mk (H16.out.below hb)
  have L17 : Kept (Below B0 w w17) := ⟨L16.out.trans (hb.mono (Nat.le_trans hB0 L16.out.size))⟩
  clear hb q16
  have q17 : w17.cell? ⟨D, 17, none⟩ = some (.slice none 0 0) := H17.out.cell 17 _ rfl
  go_wp2_with (fail)
  refine (nilCommands _).mono ?_; rintro e w18 ⟨rfl, hb⟩
  have H18 := Kept.mk (H17.out.below hb)
  have L18 : Kept (Below B0 w w18) := ⟨L17.out.trans (hb.mono (Nat.le_trans hB0 L17.out.size))⟩
  clear hb q17
  go_wp2_with (fail)
  go_ret
  exact ⟨rfl, L18.out⟩
theorem below_box {B0 : Nat} {w w1 : World} {o : Obj} (hB0 : B0 ≤ w.heap.size) (h : Below B0 (w.alloc o) w1) : Below B0 w w1 := ((Below.refl _ _).alloc hB0 _).trans h
set_option maxRecDepth 100000 in
set_option maxHeartbeats 2000000 in
theorem apartNodesList_any (B0 K b C : Nat) (vs : List Value) (ns : Nat → Nat) (xs0 : Nat → List Value) (w : World) (hK : K ≤ 100) (hK0 : 0 < K) (hl : vs.length = K) (hn : ∀ k, ns k ≤ 100000) (hB0 : B0 ≤ w.heap.size)
    (hb : ∀ (j : Nat) (v : Value), vs[j]? = some v → w.cell? ⟨b, j, none⟩ = some v) (hrow : ∀ (j : Nat) (v : Value), vs[j]? = some v → w.ownsRow B0 39 4 v (ns j) (xs0 j))
    (hfar : ∀ (j k : Nat) (u v : Value), j ≠ k → vs[j]? = some u → vs[k]? = some v → Far u v) :
    Calls Tryz.prog 14 #[.slice (some ⟨b, 0, none⟩) K C] w fun e w' => e = .returned (.bool true) ∧ Below B0 w w' := by
  have HB := Kept.mk hb
  have HR := Kept.mk hrow
  have HF := Kept.mk hfar
  have HL := Kept.mk hl
  clear hb hrow hfar hl
  go_enter Tryz.func14, Tryz.ntmps14
  go_wp2
  go_loopw [4] (fun i wx => ∃ (k : Nat) (v : Value), k ≤ K ∧ i = .int .i64 k ∧ IsBag wx w.heap.size v ∧ wx.ownsRow w.heap.size 23 1 v k (vs.take k) ∧ v.ownBlock ≠ some w.heap.size ∧ Below w.heap.size w wx) (fun i _ => K - (intOf i).toNat)
  case atStart => exact ⟨0, .slice none 0 0, by omega, rfl, heap_alloc_new _ _, World.ownsRow_nil _ _ _ _, by simp [Value.ownBlock], (Below.refl _ _).alloc (Nat.le_refl _) _⟩
  case round =>
    obtain ⟨k, v, hk, rfl, hD, hO, hne, hw⟩ := hrel
    have HW := Kept.mk hw
    by_cases hlt : k < K
    · obtain ⟨u, hu⟩ : ∃ u, vs[k]? = some u := ⟨_, List.getElem?_eq_getElem (by rw [HL.out]; exact hlt)⟩
      obtain ⟨A, c, rfl, _⟩ := own_slice (HR.out k u hu)
      have q0 : wr.cell? ⟨b, k, none⟩ = some (.slice A (ns k) c) := cel_keep hw (HB.out k _ hu)
      have HP := Kept.mk (putNodes_any w.heap.size w.heap.size A (ns k) c v k (vs.take k) wr hD hO (by omega) (Nat.le_refl _) hne)
      have ht : Kept (vs.take k ++ [.slice A (ns k) c] = vs.take (k + 1)) := ⟨by rw [List.take_add_one, hu]; rfl⟩
      have i0 : (0 : Int) ≤ (k : Int) := by omega
      have i1 : (k : Int) < (K : Int) := by omega
      clear hD hO hne hw hu
      go_wp2_with (fail)
      refine HP.out.mono ?_; rintro e w1 ⟨v', rfl, h1, h2, h3, h4⟩
      have G1 := Kept.mk h1
      have G2 := Kept.mk h2
      have G3 := Kept.mk h3
      have G4 := Kept.mk h4
      clear h1 h2 h3 h4
      go_wp2_with (fail)
      go_roundw
      case rel => exact ⟨k + 1, v', by omega, by go_num, G1.out, by rw [← ht.out]; exact G2.out, G3.out, HW.out.trans G4.out⟩
      case measure => simp [intOf]; omega
    · obtain rfl : k = K := by omega
      rw [List.take_of_length_le (by rw [HL.out]; exact Nat.le_refl _)] at hO
      obtain ⟨B, C', rfl, _⟩ := own_block hO hK0
      have HP := Kept.mk (apartNodes_any B0 w.heap.size k B C' vs ns xs0 wr hK hn hD (Nat.le_trans hB0 hw.size) (own_low hO hB0) (fun j v hv => ⟨own_below (HR.out j v hv) hw, fun e => by have := own_lt (HR.out j v hv) _ e; omega⟩) HF.out)
      clear hD hO hne hw
      go_wp2_with (fail)
      refine HP.out.mono ?_; rintro e w1 ⟨rfl, h1⟩
      have G1 := Kept.mk h1
      clear h1
      go_wp2_with (fail)
      go_ret
      exact ⟨rfl, (HW.out.mono hB0).trans G1.out⟩
end Go.Proofs.YtmdbjoebcolcfaaGreatDoor.Flt
