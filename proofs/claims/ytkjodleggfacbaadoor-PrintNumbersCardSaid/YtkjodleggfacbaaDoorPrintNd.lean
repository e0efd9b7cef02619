/- The walk over print's node, kind by kind (chapter 08). -/
import Derived.Test.YtkjodleggfacbaaDoorPrintN
namespace Go.Proofs.YtkjodleggfacbaaDoor.Wpr
open Go Go.RowKit Go.Proofs.YtkjodleggfacbaaDoor.Kb Go.Proofs.YtkjodleggfacbaaDoor.Emk Go.Proofs.YtkjodleggfacbaaDoor.Wtr

theorem next_i {i : Nat} (h : i ≤ 100000) : IntKind.i64.wrap ((i : Int) + 1) = (i : Int) + 1 := by rw [IntKind.wrap_i64]; omega
theorem ret_end {i N : Nat} (h : N = i + 1) : Ending.returned (.int .i64 ((i : Int) + 1)) = .returned (.int .i64 (N : Int)) := by subst h; rfl

set_option maxRecDepth 100000 in
set_option maxHeartbeats 4000000 in
theorem node_comment (A : Option Addr) (l : List Ptr.Nd) (c : Nat) (root : Bool) (hA : Ptr.allB l root l.length = true) (w0 : World) (hr : RdN w0 A l) (i : Nat) (hi : i < l.length) (hl : l.length ≤ 100000) (hk : Ptr.kin l i = 5) : NodeOk A l c w0 i := by
  intro acc w hW hB hz
  have ct := hW.tree
  have HR := Kept.mk hr
  obtain ⟨g, off, rfl, c0, c1, c2, c3⟩ := (hr.below hB).at_ hi
  simp only at c0 c1 c2 c3
  rw [hk] at c0
  have hprt : Ppr.prN l i = [60, 33, 45, 45] ++ Ptr.val l i ++ [45, 45, 62] := by rw [Ppr.prN_at (Ppr.tree_rng hA) hi]; simp [hk]
  have i0 : (0 : Int) ≤ (i : Int) := by omega
  have i1 : (i : Int) < (l.length : Int) := by omega
  have hlt := hW.lt
  obtain ⟨nm, hnm⟩ : ∃ nm : ByteArray, nm = ⟨(Ptr.nam l i).toArray⟩ := ⟨_, rfl⟩
  obtain ⟨vl, hvl⟩ : ∃ vl : ByteArray, vl = ⟨(Ptr.val l i).toArray⟩ := ⟨_, rfl⟩
  rw [← hnm] at c1
  rw [← hvl] at c2
  have hn2 : nm.data.toList = Ptr.nam l i := by rw [hnm]
  have hv2 : vl.data.toList = Ptr.val l i := by rw [hvl]
  rw [hprt] at hz ⊢
  rw [← hv2] at hz ⊢
  obtain ⟨P, hP⟩ : ∃ P : Int, P = Ptr.par l i := ⟨_, rfl⟩
  rw [← hP] at c3
  have hab := (Below.refl w.heap.size w).alloc (Nat.le_refl _) (.cells #[.int .u8 5, .string nm, .string vl, .int .i64 P] 37)
  have hal := heap_alloc_new w (.cells #[.int .u8 5, .string nm, .string vl, .int .i64 P] 37)
  have HW := Kept.mk (hW.below hab)
  have HB := Kept.mk (hB.trans (hab.mono hB.size))
  have HK := Kept.mk (kp_below (b := w0.heap.size) hab)
  have hqb : w.heap.size ≠ w0.heap.size := by omega
  have hwr := next_i (i := i) (by omega)
  have HZ := Kept.mk hz
  clear hW hB hz hnm hvl hprt hab hn2 hv2 hP
  have HEND := Kept.mk (Ppr.end_leaf hA hi (by omega) (by omega))
  go_enter Tryd.func21, Tryd.ntmps21
  go_upto_region 3 with (fail)
  obtain ⟨q, hq⟩ : ∃ q, q = w.heap.size := ⟨_, rfl⟩
  rw [← hq] at hal hqb ⊢
  generalize w.alloc (.cells #[.int .u8 5, .string nm, .string vl, .int .i64 P] 37) = W1 at HW HB HK hal ⊢
  have n0 : W1.cell? ⟨q, 0, none⟩ = some (.int .u8 5) := by rw [cell_of_row W1 q _ _ _ _ hal]; rfl
  have n1 : W1.cell? ⟨q, 1, none⟩ = some (.string nm) := by rw [cell_of_row W1 q _ _ _ _ hal]; rfl
  have n2 : W1.cell? ⟨q, 2, none⟩ = some (.string vl) := by rw [cell_of_row W1 q _ _ _ _ hal]; rfl
  have HAL := Kept.mk hal
  clear hal hq c0 c1 c2 c3 ct
  have hzz := HZ.out
  simp only [List.length_append, List.length_cons, List.length_nil] at hzz
  have CP := Kept.mk (put_new w0.heap.size (some ⟨g, off, none⟩) l.length c acc [⟨#[60, 33, 45, 45]⟩, vl, ⟨#[45, 45, 62]⟩] 3 W1 HW.out rfl (by show 3 ≤ 10; decide) (by simp only [List.flatMap_cons, List.flatMap_nil, List.append_nil, List.length_append, List.length_cons, List.length_nil]; show acc.length + (4 + (vl.data.toList.length + 3)) ≤ _; omega))
  go_wp2_with (go_at_call 32; refine CP.out.mono ?_; rintro e w5 ⟨rfl, h5, hb5, hk5⟩)
  go_ret
  exact ⟨ret_end HEND.out, by simpa using h5, HB.out.trans hb5, HK.out.trans hk5⟩
set_option maxRecDepth 100000 in
set_option maxHeartbeats 4000000 in
theorem node_text (A : Option Addr) (l : List Ptr.Nd) (c : Nat) (root : Bool) (hA : Ptr.allB l root l.length = true) (w0 : World) (hr : RdN w0 A l) (i : Nat) (hi : i < l.length) (hl : l.length ≤ 100000) (hk : Ptr.kin l i = 4) : NodeOk A l c w0 i := by
  intro acc w hW hB hz
  have ct := hW.tree
  have HR := Kept.mk hr
  obtain ⟨g, off, rfl, c0, c1, c2, c3⟩ := (hr.below hB).at_ hi
  simp only at c0 c1 c2 c3
  rw [hk] at c0
  have hprt : Ppr.prN l i = Ppr.escL (Ptr.val l i) := by rw [Ppr.prN_at (Ppr.tree_rng hA) hi]; simp [hk]
  have i0 : (0 : Int) ≤ (i : Int) := by omega
  have i1 : (i : Int) < (l.length : Int) := by omega
  have hlt := hW.lt
  obtain ⟨nm, hnm⟩ : ∃ nm : ByteArray, nm = ⟨(Ptr.nam l i).toArray⟩ := ⟨_, rfl⟩
  obtain ⟨vl, hvl⟩ : ∃ vl : ByteArray, vl = ⟨(Ptr.val l i).toArray⟩ := ⟨_, rfl⟩
  rw [← hnm] at c1
  rw [← hvl] at c2
  have hn2 : nm.data.toList = Ptr.nam l i := by rw [hnm]
  have hv2 : vl.data.toList = Ptr.val l i := by rw [hvl]
  rw [hprt] at hz ⊢
  rw [← hv2] at hz ⊢
  obtain ⟨P, hP⟩ : ∃ P : Int, P = Ptr.par l i := ⟨_, rfl⟩
  rw [← hP] at c3
  have hab := (Below.refl w.heap.size w).alloc (Nat.le_refl _) (.cells #[.int .u8 4, .string nm, .string vl, .int .i64 P] 37)
  have hal := heap_alloc_new w (.cells #[.int .u8 4, .string nm, .string vl, .int .i64 P] 37)
  have HW := Kept.mk (hW.below hab)
  have HB := Kept.mk (hB.trans (hab.mono hB.size))
  have HK := Kept.mk (kp_below (b := w0.heap.size) hab)
  have hqb : w.heap.size ≠ w0.heap.size := by omega
  have hwr := next_i (i := i) (by omega)
  have HZ := Kept.mk hz
  clear hW hB hz hnm hvl hprt hab hn2 hv2 hP
  have HEND := Kept.mk (Ppr.end_leaf hA hi (by omega) (by omega))
  go_enter Tryd.func21, Tryd.ntmps21
  go_upto_region 3 with (fail)
  obtain ⟨q, hq⟩ : ∃ q, q = w.heap.size := ⟨_, rfl⟩
  rw [← hq] at hal hqb ⊢
  generalize w.alloc (.cells #[.int .u8 4, .string nm, .string vl, .int .i64 P] 37) = W1 at HW HB HK hal ⊢
  have n0 : W1.cell? ⟨q, 0, none⟩ = some (.int .u8 4) := by rw [cell_of_row W1 q _ _ _ _ hal]; rfl
  have n1 : W1.cell? ⟨q, 1, none⟩ = some (.string nm) := by rw [cell_of_row W1 q _ _ _ _ hal]; rfl
  have n2 : W1.cell? ⟨q, 2, none⟩ = some (.string vl) := by rw [cell_of_row W1 q _ _ _ _ hal]; rfl
  have HAL := Kept.mk hal
  clear hal hq c0 c1 c2 c3 ct
  have hzz := HZ.out
  obtain ⟨D, hD⟩ : ∃ D : ByteArray, D = ⟨(Ppr.escL vl.data.toList).toArray⟩ := ⟨_, rfl⟩
  have hD2 : D.data.toList = Ppr.escL vl.data.toList := by rw [hD]
  have hvs : vl.size ≤ 10000000000 := by
    have h := Ppr.escL_ge vl.data.toList
    rw [size_len] at h
    omega
  have CE : Kept (Calls Tryd.prog 14 #[.string vl] W1 fun e w' => e = .returned (.string D) ∧ Below W1.heap.size W1 w') := ⟨by rw [hD]; exact Escape_any vl W1 hvs⟩
  rw [← hD2] at hzz
  have HD := Kept.mk hD2
  clear hD hD2
  have CP := Kept.mk (fun w2 (h : Below W1.heap.size W1 w2) => put_new w0.heap.size (some ⟨g, off, none⟩) l.length c acc [D] 1 w2 (HW.out.below h) rfl (by show 1 ≤ 10; decide) (by simp only [List.flatMap_cons, List.flatMap_nil, List.append_nil]; omega))
  go_wp2_with (first
    | (go_at_call 14; refine CE.out.mono ?_; rintro e w4 ⟨rfl, hb4⟩; have H4 := Kept.mk hb4; clear hb4)
    | (go_at_call 32; refine (CP.out w4 H4.out).mono ?_; rintro e w5 ⟨rfl, h5, hb5, hk5⟩))
  have hlw : w0.heap.size ≤ W1.heap.size := HB.out.size
  go_ret
  exact ⟨ret_end HEND.out, by rw [← HD.out]; simpa using h5, (HB.out.trans (H4.out.mono hlw)).trans hb5, (HK.out.trans (kp_below H4.out)).trans hk5⟩
theorem nd_cells {w : World} {q : Nat} {a b c d : Value} {t : TypeId} {fr : Nat × Nat} (h : w.heap[q]? = some (.cells #[a, b, c, d] t fr)) : w.cell? ⟨q, 1, none⟩ = some b ∧ w.cell? ⟨q, 2, none⟩ = some c := ⟨by rw [cell_of_row w q _ _ _ _ h]; rfl, by rw [cell_of_row w q _ _ _ _ h]; rfl⟩
theorem two_keep {w w' : World} {q : Nat} {a b : Value} (h : w.cell? ⟨q, 1, none⟩ = some a ∧ w.cell? ⟨q, 2, none⟩ = some b) (hb : Below w.heap.size w w') : w'.cell? ⟨q, 1, none⟩ = some a ∧ w'.cell? ⟨q, 2, none⟩ = some b := ⟨cell_keep hb h.1, cell_keep hb h.2⟩
theorem two_alloc {w : World} {q : Nat} {a b : Value} (o : Obj) (h : w.cell? ⟨q, 1, none⟩ = some a ∧ w.cell? ⟨q, 2, none⟩ = some b) : (w.alloc o).cell? ⟨q, 1, none⟩ = some a ∧ (w.alloc o).cell? ⟨q, 2, none⟩ = some b := two_keep h ((Below.refl _ _).alloc (Nat.le_refl _) o)
theorem nd_ne : 37 ≠ 5 := by decide
set_option maxRecDepth 100000 in
set_option maxHeartbeats 4000000 in
theorem node_attr (A : Option Addr) (l : List Ptr.Nd) (c : Nat) (root : Bool) (hA : Ptr.allB l root l.length = true) (w0 : World) (hr : RdN w0 A l) (i : Nat) (hi : i < l.length) (hl : l.length ≤ 100000) (hk : Ptr.kin l i = 3) : NodeOk A l c w0 i := by
  intro acc w hW hB hz
  have ct := hW.tree
  have HR := Kept.mk hr
  obtain ⟨g, off, rfl, c0, c1, c2, c3⟩ := (hr.below hB).at_ hi
  simp only at c0 c1 c2 c3
  rw [hk] at c0
  have hprt : Ppr.prN l i = Ptr.nam l i ++ 61 :: Ppr.quoL (Ptr.val l i) := by rw [Ppr.prN_at (Ppr.tree_rng hA) hi]; simp [hk]
  have i0 : (0 : Int) ≤ (i : Int) := by omega
  have i1 : (i : Int) < (l.length : Int) := by omega
  have hlt := hW.lt
  obtain ⟨nm, hnm⟩ : ∃ nm : ByteArray, nm = ⟨(Ptr.nam l i).toArray⟩ := ⟨_, rfl⟩
  obtain ⟨vl, hvl⟩ : ∃ vl : ByteArray, vl = ⟨(Ptr.val l i).toArray⟩ := ⟨_, rfl⟩
  rw [← hnm] at c1
  rw [← hvl] at c2
  have hn2 : nm.data.toList = Ptr.nam l i := by rw [hnm]
  have hv2 : vl.data.toList = Ptr.val l i := by rw [hvl]
  rw [hprt] at hz ⊢
  rw [← hn2, ← hv2] at hz ⊢
  obtain ⟨P, hP⟩ : ∃ P : Int, P = Ptr.par l i := ⟨_, rfl⟩
  rw [← hP] at c3
  have hab := (Below.refl w.heap.size w).alloc (Nat.le_refl _) (.cells #[.int .u8 3, .string nm, .string vl, .int .i64 P] 37)
  have hal := heap_alloc_new w (.cells #[.int .u8 3, .string nm, .string vl, .int .i64 P] 37)
  have HW := Kept.mk (hW.below hab)
  have HB := Kept.mk (hB.trans (hab.mono hB.size))
  have HK := Kept.mk (kp_below (b := w0.heap.size) hab)
  have hqb : w.heap.size ≠ w0.heap.size := by omega
  have hwr := next_i (i := i) (by omega)
  have HZ := Kept.mk hz
  clear hW hB hz hnm hvl hprt hab hn2 hv2 hP
  have HEND := Kept.mk (Ppr.end_leaf hA hi (by omega) (by omega))
  go_enter Tryd.func21, Tryd.ntmps21
  go_upto_region 3 with (fail)
  obtain ⟨q, hq⟩ : ∃ q, q = w.heap.size := ⟨_, rfl⟩
  rw [← hq] at hal hqb ⊢
  generalize w.alloc (.cells #[.int .u8 3, .string nm, .string vl, .int .i64 P] 37) = W1 at HW HB HK hal ⊢
  have n0 : W1.cell? ⟨q, 0, none⟩ = some (.int .u8 3) := by rw [cell_of_row W1 q _ _ _ _ hal]; rfl
  have n1 : W1.cell? ⟨q, 1, none⟩ = some (.string nm) := by rw [cell_of_row W1 q _ _ _ _ hal]; rfl
  have n2 : W1.cell? ⟨q, 2, none⟩ = some (.string vl) := by rw [cell_of_row W1 q _ _ _ _ hal]; rfl
  have HAL := Kept.mk hal
  clear hal hq c0 c1 c2 c3 ct
  have hzz := HZ.out
  simp only [List.length_append, List.length_cons] at hzz
  obtain ⟨D, hD⟩ : ∃ D : ByteArray, D = ⟨(Ppr.quoL vl.data.toList).toArray⟩ := ⟨_, rfl⟩
  have hD2 : D.data.toList = Ppr.quoL vl.data.toList := by rw [hD]
  have hvs : vl.size ≤ 10000000000 := by
    have h := Ppr.putL_ge Ppr.valueC vl.data.toList
    rw [size_len] at h
    unfold Ppr.quoL at hzz
    simp only [List.length_append, List.length_cons] at hzz
    omega
  have CE : Kept (Calls Tryd.prog 16 #[.string vl] W1.drew fun e w' => e = .returned (.string D) ∧ Below W1.drew.heap.size W1.drew w') := ⟨by rw [hD]; exact Quote_any vl W1.drew hvs⟩
  rw [← hD2] at hzz
  have HD := Kept.mk hD2
  clear hD hD2
  have CP := Kept.mk (fun w2 (h : Below W1.heap.size W1 w2) => put_new w0.heap.size (some ⟨g, off, none⟩) l.length c acc [nm, ⟨#[61]⟩, D] 3 w2 (HW.out.below h) rfl (by show 3 ≤ 10; decide) (by simp only [List.flatMap_cons, List.flatMap_nil, List.append_nil, List.length_append]; show acc.length + (nm.data.toList.length + (1 + D.data.toList.length)) ≤ _; omega))
  have S0 : W1.cell? ⟨q, 1, none⟩ = some (.string nm) ∧ W1.cell? ⟨q, 2, none⟩ = some (.string vl) := ⟨n1, n2⟩
  go_upto_region 4 with (fail)
  go_region_held3 (fun wx => wx.cell? ⟨q, 1, none⟩ = some (.string nm) ∧ wx.cell? ⟨q, 2, none⟩ = some (.string vl)) (first
      | assumption
      | exact S0
      | exact two_keep (by assumption) (by assumption)
      | exact two_alloc _ (by assumption)) (first
    | (go_at_call 16; refine CE.out.mono ?_; rintro e w4 ⟨rfl, hb4⟩; have H4 := ((Below.refl W1.heap.size W1).drew).trans (hb4.mono (Nat.le_refl _)))
    | (go_at_call 32; refine (CP.out w4 H4).mono ?_; rintro e w5 ⟨rfl, h5, hb5, hk5⟩; have hS5 := nd_cells (kp_cells ((kp_below H4).trans hk5) HAL.out hqb nd_ne)))
  all_goals
    go_wp2
    go_ret
    exact ⟨ret_end HEND.out, by rw [← HD.out]; simpa using h5, (HB.out.trans (H4.mono HB.out.size)).trans hb5, (HK.out.trans (kp_below H4)).trans hk5⟩
set_option maxRecDepth 100000 in
set_option maxHeartbeats 4000000 in
theorem node_instr (A : Option Addr) (l : List Ptr.Nd) (c : Nat) (root : Bool) (hA : Ptr.allB l root l.length = true) (w0 : World) (hr : RdN w0 A l) (i : Nat) (hi : i < l.length) (hl : l.length ≤ 100000) (hk : Ptr.kin l i = 6) : NodeOk A l c w0 i := by
  intro acc w hW hB hz
  have ct := hW.tree
  have HR := Kept.mk hr
  obtain ⟨g, off, rfl, c0, c1, c2, c3⟩ := (hr.below hB).at_ hi
  simp only at c0 c1 c2 c3
  rw [hk] at c0
  have hprt : Ppr.prN l i = [60, 63] ++ Ptr.nam l i ++ (if Ptr.val l i = [] then [] else 32 :: Ptr.val l i) ++ [63, 62] := by rw [Ppr.prN_at (Ppr.tree_rng hA) hi]; simp [hk]
  have i0 : (0 : Int) ≤ (i : Int) := by omega
  have i1 : (i : Int) < (l.length : Int) := by omega
  have hlt := hW.lt
  obtain ⟨nm, hnm⟩ : ∃ nm : ByteArray, nm = ⟨(Ptr.nam l i).toArray⟩ := ⟨_, rfl⟩
  obtain ⟨vl, hvl⟩ : ∃ vl : ByteArray, vl = ⟨(Ptr.val l i).toArray⟩ := ⟨_, rfl⟩
  rw [← hnm] at c1
  rw [← hvl] at c2
  have hn2 : nm.data.toList = Ptr.nam l i := by rw [hnm]
  have hv2 : vl.data.toList = Ptr.val l i := by rw [hvl]
  rw [hprt] at hz ⊢
  rw [← hn2, ← hv2] at hz ⊢
  obtain ⟨P, hP⟩ : ∃ P : Int, P = Ptr.par l i := ⟨_, rfl⟩
  rw [← hP] at c3
  have hab := (Below.refl w.heap.size w).alloc (Nat.le_refl _) (.cells #[.int .u8 6, .string nm, .string vl, .int .i64 P] 37)
  have hal := heap_alloc_new w (.cells #[.int .u8 6, .string nm, .string vl, .int .i64 P] 37)
  have HW := Kept.mk (hW.below hab)
  have HB := Kept.mk (hB.trans (hab.mono hB.size))
  have HK := Kept.mk (kp_below (b := w0.heap.size) hab)
  have hqb : w.heap.size ≠ w0.heap.size := by omega
  have hwr := next_i (i := i) (by omega)
  have HZ := Kept.mk hz
  clear hW hB hz hnm hvl hprt hab hn2 hv2 hP
  have HEND := Kept.mk (Ppr.end_leaf hA hi (by omega) (by omega))
  go_enter Tryd.func21, Tryd.ntmps21
  go_upto_region 3 with (fail)
  obtain ⟨q, hq⟩ : ∃ q, q = w.heap.size := ⟨_, rfl⟩
  rw [← hq] at hal hqb ⊢
  generalize w.alloc (.cells #[.int .u8 6, .string nm, .string vl, .int .i64 P] 37) = W1 at HW HB HK hal ⊢
  have n0 : W1.cell? ⟨q, 0, none⟩ = some (.int .u8 6) := by rw [cell_of_row W1 q _ _ _ _ hal]; rfl
  have n1 : W1.cell? ⟨q, 1, none⟩ = some (.string nm) := by rw [cell_of_row W1 q _ _ _ _ hal]; rfl
  have n2 : W1.cell? ⟨q, 2, none⟩ = some (.string vl) := by rw [cell_of_row W1 q _ _ _ _ hal]; rfl
  have HAL := Kept.mk hal
  clear hal hq c0 c1 c2 c3 ct
  have hzz := HZ.out
  simp only [List.length_append, List.length_cons, List.length_nil] at hzz
  have C1 := Kept.mk (put_new w0.heap.size (some ⟨g, off, none⟩) l.length c acc [⟨#[60, 63]⟩, nm] 2 W1 HW.out rfl (by show 2 ≤ 10; decide) (by simp only [List.flatMap_cons, List.flatMap_nil, List.append_nil, List.length_append]; show acc.length + (2 + nm.data.toList.length) ≤ _; omega))
  have hend : ∀ (acc2 : List UInt8) (w2 : World), Wr (some ⟨g, off, none⟩) l.length c w0.heap.size acc2 w2 → acc2.length + 2 ≤ 100000000000 → Calls Tryd.prog 32 #[.pointer (some ⟨w0.heap.size, 0, none⟩), .slice (some ⟨w2.heap.size, 0, none⟩) 1 1] (w2.alloc (.cells #[.string ⟨#[63, 62]⟩] 9)) fun e w' => e = .returned (.tuple #[]) ∧ Wr (some ⟨g, off, none⟩) l.length c w0.heap.size (acc2 ++ [63, 62]) w' ∧ Below w0.heap.size w2 w' ∧ Kp w0.heap.size w2 w' := fun acc2 w2 h2 hz2 => put_new w0.heap.size (some ⟨g, off, none⟩) l.length c acc2 [⟨#[63, 62]⟩] 1 w2 h2 rfl (by show 1 ≤ 10; decide) hz2
  have CEND := Kept.mk hend
  clear hend
  go_wp2_with (fail)
  refine C1.out.mono ?_; rintro e w5 ⟨rfl, h5, hb5, hk5⟩
  have h5 : Wr (some ⟨g, off, none⟩) l.length c w0.heap.size (acc ++ ([60, 63] ++ nm.data.toList)) w5 := by simpa using h5
  obtain ⟨s1, s2⟩ := nd_cells (kp_cells hk5 HAL.out hqb nd_ne)
  have H5 := Kept.mk h5; have B5 := Kept.mk (HB.out.trans hb5); have K5 := Kept.mk (HK.out.trans hk5)
  clear C1 h5 hb5 hk5 n0 n1 n2 HAL
  by_cases hv : vl.data.toList = []
  · have hvl : vl = ⟨#[]⟩ := by
      apply ByteArray.ext
      apply Array.ext'
      exact hv
    subst hvl
    go_wp2_with (fail)
    refine (CEND.out _ w5 H5.out (by simp only [List.length_append, List.length_cons, List.length_nil]; omega)).mono ?_; rintro e w6 ⟨rfl, h6, hb6, hk6⟩
    have H6 := Kept.mk h6; have B6 := Kept.mk (B5.out.trans hb6); have K6 := Kept.mk (K5.out.trans hk6)
    clear h6 hb6 hk6
    go_wp2
    go_ret
    exact ⟨ret_end HEND.out, by simpa using H6.out, B6.out, K6.out⟩
  · rw [if_neg hv] at hzz
    simp only [List.length_cons] at hzz
    obtain ⟨x, r, hxr⟩ : ∃ x r, vl.data.toList = x :: r := by
      cases h : vl.data.toList with
      | nil => exact absurd h hv
      | cons x r => exact ⟨x, r, rfl⟩
    rw [hxr, List.length_cons] at hzz
    have hvl : vl = ⟨(x :: r).toArray⟩ := by
      apply ByteArray.ext
      apply Array.ext'
      exact hxr
    subst hvl
    have C2 := Kept.mk (put_new w0.heap.size (some ⟨g, off, none⟩) l.length c (acc ++ ([60, 63] ++ nm.data.toList)) [⟨#[32]⟩, ⟨(x :: r).toArray⟩] 2 w5 H5.out rfl (by show 2 ≤ 10; decide) (by simp only [List.flatMap_cons, List.flatMap_nil, List.append_nil, List.length_append]; show acc.length + (2 + nm.data.toList.length) + (1 + (r.length + 1)) ≤ _; omega))
    go_wp2_with (fail)
    refine C2.out.mono ?_; rintro e w6 ⟨rfl, h6, hb6, hk6⟩
    have h6 : Wr (some ⟨g, off, none⟩) l.length c w0.heap.size (acc ++ ([60, 63] ++ nm.data.toList) ++ 32 :: (x :: r)) w6 := by simpa using h6
    have H6 := Kept.mk h6; have B6 := Kept.mk (B5.out.trans hb6); have K6 := Kept.mk (K5.out.trans hk6)
    clear C2 h6 hb6 hk6
    go_wp2_with (fail)
    refine (CEND.out _ w6 H6.out (by simp only [List.length_append, List.length_cons, List.length_nil]; omega)).mono ?_; rintro e w7 ⟨rfl, h7, hb7, hk7⟩
    have H7 := Kept.mk h7; have B7 := Kept.mk (B6.out.trans hb7); have K7 := Kept.mk (K6.out.trans hk7)
    clear h7 hb7 hk7
    go_wp2
    go_ret
    exact ⟨ret_end HEND.out, by simpa [hv] using H7.out, B7.out, K7.out⟩
set_option maxRecDepth 100000 in
set_option maxHeartbeats 4000000 in
theorem node_root (A : Option Addr) (l : List Ptr.Nd) (c : Nat) (root : Bool) (hA : Ptr.allB l root l.length = true) (w0 : World) (hr : RdN w0 A l) (i : Nat) (hi : i < l.length) (hl : l.length ≤ 100000) (hk : Ptr.kin l i = 1) (hN : ∀ j, i < j → j < l.length → NodeOk A l c w0 j) : NodeOk A l c w0 i := by
  intro acc w hW hB hz
  have ct := hW.tree
  have HR := Kept.mk hr
  obtain ⟨g, off, rfl, c0, c1, c2, c3⟩ := (hr.below hB).at_ hi
  simp only at c0 c1 c2 c3
  rw [hk] at c0
  have hprt : Ppr.prN l i = (Ppr.childs l i).flatMap (Ppr.prN l) := by rw [Ppr.prN_at (Ppr.tree_rng hA) hi]; simp [hk]
  have i0 : (0 : Int) ≤ (i : Int) := by omega
  have i1 : (i : Int) < (l.length : Int) := by omega
  have hlt := hW.lt
  obtain ⟨nm, hnm⟩ : ∃ nm : ByteArray, nm = ⟨(Ptr.nam l i).toArray⟩ := ⟨_, rfl⟩
  obtain ⟨vl, hvl⟩ : ∃ vl : ByteArray, vl = ⟨(Ptr.val l i).toArray⟩ := ⟨_, rfl⟩
  rw [← hnm] at c1
  rw [← hvl] at c2
  have hn2 : nm.data.toList = Ptr.nam l i := by rw [hnm]
  have hv2 : vl.data.toList = Ptr.val l i := by rw [hvl]
  rw [hprt] at hz ⊢
  
  obtain ⟨P, hP⟩ : ∃ P : Int, P = Ptr.par l i := ⟨_, rfl⟩
  rw [← hP] at c3
  have hab := (Below.refl w.heap.size w).alloc (Nat.le_refl _) (.cells #[.int .u8 1, .string nm, .string vl, .int .i64 P] 37)
  have hal := heap_alloc_new w (.cells #[.int .u8 1, .string nm, .string vl, .int .i64 P] 37)
  have HW := Kept.mk (hW.below hab)
  have HB := Kept.mk (hB.trans (hab.mono hB.size))
  have HK := Kept.mk (kp_below (b := w0.heap.size) hab)
  have hqb : w.heap.size ≠ w0.heap.size := by omega
  have hwr := next_i (i := i) (by omega)
  have HZ := Kept.mk hz
  clear hW hB hz hnm hvl hprt hab hn2 hv2 hP
  go_enter Tryd.func21, Tryd.ntmps21
  go_upto_region 3 with (fail)
  obtain ⟨q, hq⟩ : ∃ q, q = w.heap.size := ⟨_, rfl⟩
  rw [← hq] at hal hqb ⊢
  generalize w.alloc (.cells #[.int .u8 1, .string nm, .string vl, .int .i64 P] 37) = W1 at HW HB HK hal ⊢
  have n0 : W1.cell? ⟨q, 0, none⟩ = some (.int .u8 1) := by rw [cell_of_row W1 q _ _ _ _ hal]; rfl
  have n1 : W1.cell? ⟨q, 1, none⟩ = some (.string nm) := by rw [cell_of_row W1 q _ _ _ _ hal]; rfl
  have n2 : W1.cell? ⟨q, 2, none⟩ = some (.string vl) := by rw [cell_of_row W1 q _ _ _ _ hal]; rfl
  have HAL := Kept.mk hal
  clear hal hq c0 c1 c2 c3 ct
  have ei : ((i + 1 : Nat) : Int) = (i : Int) + 1 := by omega
  have cK := kids_any (some ⟨g, off, none⟩) l c root hA w0 hr i (i + 1) hN (Ppr.kid_root hA hi (by omega)) acc W1 HW.out HB.out HZ.out
  rw [ei] at cK
  have CK := Kept.mk cK
  clear cK ei hN
  go_wp2_with (fail)
  refine CK.out.mono ?_; rintro e w5 ⟨rfl, h5, hb5, hk5⟩
  have H5 := Kept.mk (And.intro h5 (And.intro hb5 (HK.out.trans hk5)))
  clear CK h5 hb5 hk5
  go_wp2
  go_ret
  exact ⟨rfl, H5.out⟩
set_option maxRecDepth 100000 in
set_option maxHeartbeats 4000000 in
theorem node_elem (A : Option Addr) (l : List Ptr.Nd) (c : Nat) (root : Bool) (hA : Ptr.allB l root l.length = true) (w0 : World) (hr : RdN w0 A l) (i : Nat) (hi : i < l.length) (hl : l.length ≤ 100000) (hk : Ptr.kin l i = 2) (hN : ∀ j, i < j → j < l.length → NodeOk A l c w0 j) : NodeOk A l c w0 i := by
  intro acc w hW hB hz
  have ct := hW.tree
  have HR := Kept.mk hr
  obtain ⟨g, off, rfl, c0, c1, c2, c3⟩ := (hr.below hB).at_ hi
  simp only at c0 c1 c2 c3
  rw [hk] at c0
  have hprt : Ppr.prN l i = 60 :: Ptr.nam l i ++ (List.range' (i + 1) (Ppr.runN l i - (i + 1))).flatMap (fun j => 32 :: Ppr.prN l j) ++ (if Ppr.childs l i = [] then [47, 62] else 62 :: ((Ppr.childs l i).flatMap (Ppr.prN l) ++ ([60, 47] ++ Ptr.nam l i ++ [62]))) := by rw [Ppr.prN_at (Ppr.tree_rng hA) hi]; simp [hk]
  have i0 : (0 : Int) ≤ (i : Int) := by omega
  have i1 : (i : Int) < (l.length : Int) := by omega
  have hlt := hW.lt
  obtain ⟨nm, hnm⟩ : ∃ nm : ByteArray, nm = ⟨(Ptr.nam l i).toArray⟩ := ⟨_, rfl⟩
  obtain ⟨vl, hvl⟩ : ∃ vl : ByteArray, vl = ⟨(Ptr.val l i).toArray⟩ := ⟨_, rfl⟩
  rw [← hnm] at c1
  rw [← hvl] at c2
  have hn2 : nm.data.toList = Ptr.nam l i := by rw [hnm]
  have hv2 : vl.data.toList = Ptr.val l i := by rw [hvl]
  rw [hprt] at hz ⊢
  rw [← hn2] at hz ⊢
  obtain ⟨P, hP⟩ : ∃ P : Int, P = Ptr.par l i := ⟨_, rfl⟩
  rw [← hP] at c3
  have hab := (Below.refl w.heap.size w).alloc (Nat.le_refl _) (.cells #[.int .u8 2, .string nm, .string vl, .int .i64 P] 37)
  have hal := heap_alloc_new w (.cells #[.int .u8 2, .string nm, .string vl, .int .i64 P] 37)
  have HW := Kept.mk (hW.below hab)
  have HB := Kept.mk (hB.trans (hab.mono hB.size))
  have HK := Kept.mk (kp_below (b := w0.heap.size) hab)
  have hqb : w.heap.size ≠ w0.heap.size := by omega
  have hwr := next_i (i := i) (by omega)
  have HZ := Kept.mk hz
  clear hW hB hz hnm hvl hprt hab hn2 hv2 hP
  obtain ⟨R1, R2, R3, R4⟩ := Ppr.runN_spec l i hi
  have K0 := Kept.mk (Ppr.kid_attrs hA hi)
  have HN := Kept.mk hN
  have HAA := Kept.mk hA
  have R3 := Kept.mk R3
  have R4 := Kept.mk R4
  generalize Ppr.runN l i = R at R1 R2 R3 R4 K0 HZ ⊢
  clear hN
  obtain ⟨T, hT⟩ : ∃ T, T = 60 :: nm.data.toList ++ (List.range' (i + 1) (R - (i + 1))).flatMap (fun j => 32 :: Ppr.prN l j) ++ (if Ppr.childs l i = [] then [47, 62] else 62 :: ((Ppr.childs l i).flatMap (Ppr.prN l) ++ ([60, 47] ++ nm.data.toList ++ [62]))) := ⟨_, rfl⟩
  rw [← hT]
  have HT := Kept.mk hT
  clear hT
  go_enter Tryd.func21, Tryd.ntmps21
  go_upto_region 3 with (fail)
  obtain ⟨q, hq⟩ : ∃ q, q = w.heap.size := ⟨_, rfl⟩
  rw [← hq] at hal hqb ⊢
  generalize w.alloc (.cells #[.int .u8 2, .string nm, .string vl, .int .i64 P] 37) = W1 at HW HB HK hal ⊢
  have n0 : W1.cell? ⟨q, 0, none⟩ = some (.int .u8 2) := by rw [cell_of_row W1 q _ _ _ _ hal]; rfl
  have n1 : W1.cell? ⟨q, 1, none⟩ = some (.string nm) := by rw [cell_of_row W1 q _ _ _ _ hal]; rfl
  have n2 : W1.cell? ⟨q, 2, none⟩ = some (.string vl) := by rw [cell_of_row W1 q _ _ _ _ hal]; rfl
  have HAL := Kept.mk hal
  clear hal hq c0 c1 c2 c3 ct
  have h1 := HZ.out
  have C1 := Kept.mk (put_new w0.heap.size (some ⟨g, off, none⟩) l.length c acc [⟨#[60]⟩, nm] 2 W1 HW.out rfl (by show 2 ≤ 10; decide) (by simp only [List.flatMap_cons, List.flatMap_nil, List.append_nil, List.length_append, List.length_cons] at h1 ⊢; show acc.length + (1 + nm.data.toList.length) ≤ _; omega))
  clear h1
  go_wp2_with (fail)
  refine C1.out.mono ?_; rintro e w5 ⟨rfl, h5, hb5, hk5⟩
  have h5 : Wr (some ⟨g, off, none⟩) l.length c w0.heap.size (acc ++ (60 :: nm.data.toList)) w5 := by simpa using h5
  have H0 : Kept (Wr (some ⟨g, off, none⟩) l.length c w0.heap.size (acc ++ (60 :: nm.data.toList) ++ (List.range' (i + 1) (i + 1 - (i + 1))).flatMap (fun j => 32 :: Ppr.prN l j)) w5 ∧ Below w0.heap.size w0 w5 ∧ Kp w0.heap.size W1 w5) := ⟨by simpa using h5, HB.out.trans hb5, hk5⟩
  clear C1 h5 hb5 hk5 n0 n1 n2
  go_wp2
  go_loopw [6] (fun v wx => ∃ k : Nat, v = .int .i64 (k : Int) ∧ i + 1 ≤ k ∧ k ≤ R ∧ Kept (Wr (some ⟨g, off, none⟩) l.length c w0.heap.size (acc ++ (60 :: nm.data.toList) ++ (List.range' (i + 1) (k - (i + 1))).flatMap (fun j => 32 :: Ppr.prN l j)) wx ∧ Below w0.heap.size w0 wx ∧ Kp w0.heap.size W1 wx)) (fun v _ => l.length - (intOf v).toNat)
  case atStart => exact ⟨i + 1, rfl, by omega, by omega, H0⟩
  case round =>
    clear H0
    obtain ⟨k, rfl, hk1, hk2, HH⟩ := hrel
    have ct := HH.out.1.tree
    have k0 : (0 : Int) ≤ (k : Int) := by omega
    by_cases hlt : k < R
    · have hkl : k < l.length := by omega
      have k1 : (k : Int) < (l.length : Int) := by omega
      obtain ⟨g', off', eA, d0, _, _, d3⟩ := (HR.out.below HH.out.2.1).at_ hkl
      cases eA
      simp only at d0 d3
      obtain ⟨e3, ep⟩ := R3.out k (by omega) hlt
      rw [e3] at d0
      rw [ep] at d3
      have hstep : (List.range' (i + 1) (k + 1 - (i + 1))).flatMap (fun j => 32 :: Ppr.prN l j) = (List.range' (i + 1) (k - (i + 1))).flatMap (fun j => 32 :: Ppr.prN l j) ++ 32 :: Ppr.prN l k := by
        rw [show k + 1 - (i + 1) = (k - (i + 1)) + 1 by omega, List.range'_concat, List.flatMap_append, show i + 1 + 1 * (k - (i + 1)) = k by omega]
        simp
      have hsz : (acc ++ (60 :: nm.data.toList) ++ ((List.range' (i + 1) (k - (i + 1))).flatMap (fun j => 32 :: Ppr.prN l j) ++ 32 :: Ppr.prN l k)).length ≤ 10000000000 := by
        have h := HZ.out
        have hs2 : (List.range' (i + 1) (R - (i + 1))).flatMap (fun j => 32 :: Ppr.prN l j) = (List.range' (i + 1) (k + 1 - (i + 1))).flatMap (fun j => 32 :: Ppr.prN l j) ++ (List.range' (k + 1) (R - (k + 1))).flatMap (fun j => 32 :: Ppr.prN l j) := by
          rw [← List.flatMap_append, show R - (i + 1) = (k + 1 - (i + 1)) + (R - (k + 1)) by omega, ← List.range'_append_1, show i + 1 + (k + 1 - (i + 1)) = k + 1 by omega]
        rw [hs2, hstep] at h
        simp only [List.length_append, List.length_cons] at h ⊢
        omega
      have hend : Ptr.endN l k = k + 1 := Ppr.end_leaf HAA.out hkl (by omega) (by omega)
      have HST := Kept.mk hstep
      have HEN := Kept.mk hend
      simp only [List.length_append, List.length_cons] at hsz
      obtain ⟨M, hM⟩ : ∃ M, M = acc ++ (60 :: nm.data.toList) ++ (List.range' (i + 1) (k - (i + 1))).flatMap (fun j => 32 :: Ppr.prN l j) := ⟨_, rfl⟩
      have hMl : M.length + 1 + (Ppr.prN l k).length ≤ 10000000000 := by rw [hM]; simp only [List.length_append, List.length_cons]; omega
      have hH2 := HH.out
      rw [← hM] at hH2
      have HH2 := Kept.mk hH2
      have HM := Kept.mk hM
      have C2 := Kept.mk (put_new w0.heap.size (some ⟨g, off, none⟩) l.length c M [⟨#[32]⟩] 1 wr hH2.1 rfl (by show 1 ≤ 10; decide) (by show M.length + 1 ≤ _; omega))
      have C3 := Kept.mk (HN.out k (by omega) hkl (M ++ [32]))
      clear hstep hend hsz hM hH2 HH e3 ep
      go_wp2_with (fail)
      refine C2.out.mono ?_; rintro e w6 ⟨rfl, h6, hb6, hk6⟩
      have h6 : Wr (some ⟨g, off, none⟩) l.length c w0.heap.size (M ++ [32]) w6 := by simpa using h6
      have H6 := Kept.mk (And.intro h6 (And.intro (HH2.out.2.1.trans hb6) (HH2.out.2.2.trans hk6)))
      clear C2 h6 hb6 hk6
      go_wp2_with (fail)
      refine (C3.out w6 H6.out.1 H6.out.2.1 (by rw [List.length_append]; show M.length + 1 + _ ≤ _; omega)).mono ?_; rintro e w7 ⟨rfl, h7, hb7, hk7⟩
      have H7 := Kept.mk (And.intro h7 (And.intro hb7 (H6.out.2.2.trans hk7)))
      clear C3 h7 hb7 hk7
      go_wp2
      go_roundw
      case rel => exact ⟨k + 1, by rw [HEN.out], by omega, by omega, ⟨by rw [HST.out, ← List.append_assoc, ← HM.out]; simpa using H7.out.1, H7.out.2⟩⟩
      case measure => rw [HEN.out]; simp [intOf]; omega
    · obtain rfl : k = R := by omega
      by_cases hend : k = l.length ∨ Ptr.par l k ≠ i
      · obtain ⟨e1, e2⟩ := Ppr.kid_stop HAA.out K0.out hend
        by_cases hkl : k < l.length
        · have k1 : (k : Int) < (l.length : Int) := by omega
          have k2 : ((k : Int) == (l.length : Int)) = false := by simp; omega
          have hp : (Ptr.par l k == (i : Int)) = false := hend.elim (fun h => absurd h (by omega)) (fun h => by simpa using h)
          obtain ⟨g', off', eA, d0, _, _, d3⟩ := (HR.out.below HH.out.2.1).at_ hkl
          cases eA
          simp only at d0 d3
          by_cases h3 : Ptr.kin l k = 3
          · rw [h3] at d0
            have E1 := Kept.mk e1
            have E2 := Kept.mk e2
            clear e1 e2
            have hz2 : (acc ++ (60 :: nm.data.toList) ++ (List.range' (i + 1) (k - (i + 1))).flatMap (fun j => 32 :: Ppr.prN l j)).length + 2 ≤ 100000000000 := by
              have h := HZ.out
              simp only [List.length_append, List.length_cons] at h ⊢
              omega
            have CP := Kept.mk (put_new w0.heap.size (some ⟨g, off, none⟩) l.length c (acc ++ (60 :: nm.data.toList) ++ (List.range' (i + 1) (k - (i + 1))).flatMap (fun j => 32 :: Ppr.prN l j)) [⟨#[47, 62]⟩] 1 wr HH.out.1 rfl (by show 1 ≤ 10; decide) hz2)
            clear hz2
            go_wp2_with (fail)
            refine CP.out.mono ?_; rintro e w6 ⟨rfl, h6, hb6, hk6⟩
            have H6 := Kept.mk (And.intro h6 (And.intro (HH.out.2.1.trans hb6) (HH.out.2.2.trans hk6)))
            clear CP h6 hb6 hk6
            go_wp2
            go_ret
            exact ⟨ret_nat E2.out.symm, by rw [HT.out, E1.out, if_pos rfl]; simpa using H6.out.1, H6.out.2.1, HK.out.trans H6.out.2.2⟩
          have h3b : ((Ptr.kin l k : Int) == 3) = false := by simp; omega
          have E1 := Kept.mk e1
          have E2 := Kept.mk e2
          clear e1 e2
          have hz2 : (acc ++ (60 :: nm.data.toList) ++ (List.range' (i + 1) (k - (i + 1))).flatMap (fun j => 32 :: Ppr.prN l j)).length + 2 ≤ 100000000000 := by
            have h := HZ.out
            simp only [List.length_append, List.length_cons] at h ⊢
            omega
          have CP := Kept.mk (put_new w0.heap.size (some ⟨g, off, none⟩) l.length c (acc ++ (60 :: nm.data.toList) ++ (List.range' (i + 1) (k - (i + 1))).flatMap (fun j => 32 :: Ppr.prN l j)) [⟨#[47, 62]⟩] 1 wr HH.out.1 rfl (by show 1 ≤ 10; decide) hz2)
          clear hz2
          go_wp2_with (fail)
          refine CP.out.mono ?_; rintro e w6 ⟨rfl, h6, hb6, hk6⟩
          have H6 := Kept.mk (And.intro h6 (And.intro (HH.out.2.1.trans hb6) (HH.out.2.2.trans hk6)))
          clear CP h6 hb6 hk6
          go_wp2
          go_ret
          exact ⟨ret_nat E2.out.symm, by rw [HT.out, E1.out, if_pos rfl]; simpa using H6.out.1, H6.out.2.1, HK.out.trans H6.out.2.2⟩
        have k1 : ¬ (k : Int) < (l.length : Int) := by omega
        have k2 : ((k : Int) == (l.length : Int)) = true := by simp; omega
        have E1 := Kept.mk e1
        have E2 := Kept.mk e2
        clear e1 e2
        have hz2 : (acc ++ (60 :: nm.data.toList) ++ (List.range' (i + 1) (k - (i + 1))).flatMap (fun j => 32 :: Ppr.prN l j)).length + 2 ≤ 100000000000 := by
          have h := HZ.out
          simp only [List.length_append, List.length_cons] at h ⊢
          omega
        have CP := Kept.mk (put_new w0.heap.size (some ⟨g, off, none⟩) l.length c (acc ++ (60 :: nm.data.toList) ++ (List.range' (i + 1) (k - (i + 1))).flatMap (fun j => 32 :: Ppr.prN l j)) [⟨#[47, 62]⟩] 1 wr HH.out.1 rfl (by show 1 ≤ 10; decide) hz2)
        clear hz2
        go_wp2_with (fail)
        refine CP.out.mono ?_; rintro e w6 ⟨rfl, h6, hb6, hk6⟩
        have H6 := Kept.mk (And.intro h6 (And.intro (HH.out.2.1.trans hb6) (HH.out.2.2.trans hk6)))
        clear CP h6 hb6 hk6
        go_wp2
        go_ret
        exact ⟨ret_nat E2.out.symm, by rw [HT.out, E1.out, if_pos rfl]; simpa using H6.out.1, H6.out.2.1, HK.out.trans H6.out.2.2⟩
      obtain ⟨hkl, hp⟩ : k < l.length ∧ Ptr.par l k = i := ⟨by have := R2; omega, Classical.byContradiction fun h => hend (.inr h)⟩
      have h3 : ((Ptr.kin l k : Int) == 3) = false := by have := R4.out hkl; simp; omega
      have k1 : (k : Int) < (l.length : Int) := by omega
      have k2 : ((k : Int) == (l.length : Int)) = false := by simp; omega
      obtain ⟨g', off', eA, d0, _, _, d3⟩ := (HR.out.below HH.out.2.1).at_ hkl
      cases eA
      simp only at d0 d3
      rw [hp] at d3
      have hne : Ppr.childs l i ≠ [] := by rw [K0.out.rest, List.nil_append, Ppr.kidsFrom_at HAA.out hkl hp]; simp
      have hz2 := HZ.out
      rw [if_neg hne] at hz2
      have HNE := Kept.mk hne
      obtain ⟨M, hM⟩ : ∃ M, M = acc ++ (60 :: nm.data.toList) ++ (List.range' (i + 1) (k - (i + 1))).flatMap (fun j => 32 :: Ppr.prN l j) := ⟨_, rfl⟩
      have hMl : M.length + 1 + ((Ppr.childs l i).flatMap (Ppr.prN l)).length + (2 + nm.data.toList.length + 1) ≤ 10000000000 := by rw [hM]; simp only [List.length_append, List.length_cons, List.length_nil] at hz2 ⊢; omega
      have hH2 := HH.out
      rw [← hM] at hH2
      have HH2 := Kept.mk hH2
      have HM := Kept.mk hM
      have C2 := Kept.mk (put_new w0.heap.size (some ⟨g, off, none⟩) l.length c M [⟨#[62]⟩] 1 wr hH2.1 rfl (by show 1 ≤ 10; decide) (by show M.length + 1 ≤ _; omega))
      clear hz2 hM hH2 HH hne
      go_wp2_with (fail)
      refine C2.out.mono ?_; rintro e w6 ⟨rfl, h6, hb6, hk6⟩
      have h6 : Wr (some ⟨g, off, none⟩) l.length c w0.heap.size (M ++ [62]) w6 := by simpa using h6
      have H6 := Kept.mk (And.intro h6 (And.intro (HH2.out.2.1.trans hb6) (HH2.out.2.2.trans hk6)))
      clear C2 h6 hb6 hk6
      have C3 := Kept.mk (kids_any (some ⟨g, off, none⟩) l c root HAA.out w0 HR.out i k HN.out K0.out (M ++ [62]) w6 H6.out.1 H6.out.2.1 (by rw [List.length_append]; show M.length + 1 + _ ≤ _; omega))
      go_wp2_with (fail)
      refine C3.out.mono ?_; rintro e w7 ⟨rfl, h7, hb7, hk7⟩
      have H7 := Kept.mk (And.intro h7 (And.intro hb7 (H6.out.2.2.trans hk7)))
      obtain ⟨s1, s2⟩ := nd_cells (kp_cells H7.out.2.2 HAL.out hqb nd_ne)
      clear C3 h7 hb7 hk7
      have C4 := Kept.mk (put_new w0.heap.size (some ⟨g, off, none⟩) l.length c (M ++ [62] ++ (Ppr.childs l i).flatMap (Ppr.prN l)) [⟨#[60, 47]⟩, nm, ⟨#[62]⟩] 3 w7 H7.out.1 rfl (by show 3 ≤ 10; decide) (by simp only [List.flatMap_cons, List.flatMap_nil, List.append_nil, List.length_append]; show M.length + 1 + _ + (2 + (nm.data.toList.length + 1)) ≤ _; omega))
      go_wp2_with (fail)
      refine C4.out.mono ?_; rintro e w8 ⟨rfl, h8, hb8, hk8⟩
      have H8 := Kept.mk (And.intro h8 (And.intro (H7.out.2.1.trans hb8) (H7.out.2.2.trans hk8)))
      clear C4 h8 hb8 hk8
      go_wp2
      go_ret
      exact ⟨rfl, by have h := H8.out.1; rw [HM.out] at h; rw [HT.out, if_neg HNE.out]; simpa using h, H8.out.2.1, HK.out.trans H8.out.2.2⟩
end Go.Proofs.YtkjodleggfacbaaDoor.Wpr
