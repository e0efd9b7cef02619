/- The program's check of trees (chapter 06), joined: TreeVd -/
import Derived.Test.YtemfmidhekdekaaGreatDoorTreeVb
import Derived.Test.YtemfmidhekdekaaGreatDoorTreeVc
import Derived.Test.YtemfmidhekdekaaGreatDoorTreeVa
import Derived.Test.YtemfmidhekdekaaGreatDoorPsB
import Derived.Deep.OwnRows
import Derived.Deep.RegionHeld3
namespace Go.Proofs.YtemfmidhekdekaaGreatDoor.Wtr
open Go Go.RowKit Go.Proofs.YtemfmidhekdekaaGreatDoor.Kb

theorem within_in (l : List Ptr.Nd) (P : Int) : withinB true true true l P = Ptr.insideB l P := by
  unfold withinB Ptr.insideB
  by_cases h : P < 0
  · rw [if_pos h, decide_eq_true h]; rfl
  · rw [if_neg h, decide_eq_false h]
    by_cases k : Ptr.kin l P.toNat = 1
    · rw [if_pos k, k]; rfl
    · rw [if_neg k, beq_eq_false_iff_ne.2 k]; rfl
theorem within_elem (l : List Ptr.Nd) (P : Int) : withinB false false true l P = Ptr.elemB l P := by
  unfold withinB Ptr.elemB
  by_cases h : P < 0
  · rw [if_pos h, decide_eq_true h]; rfl
  · rw [if_neg h, decide_eq_false h]
    by_cases k : Ptr.kin l P.toNat = 1
    · rw [if_pos k, k]; rfl
    · rw [if_neg k]; rfl
theorem within_under (l : List Ptr.Nd) (P : Int) : withinB true false true l P = Ptr.underB l P := by
  unfold withinB Ptr.underB
  by_cases h : P < 0
  · rw [if_pos h, decide_eq_true h]; rfl
  · rw [if_neg h, decide_eq_false h]
    by_cases k : Ptr.kin l P.toNat = 1
    · rw [if_pos k, k]; rfl
    · rw [if_neg k]; rfl
theorem no_name (x : List UInt8) : (!Pch.nameL x && decide (x = [])) = decide (x = []) := by
  by_cases h : x = []
  · subst h; rfl
  · rw [decide_eq_false h, Bool.and_false]
theorem fits_any (D gl : Nat) (tp : Int) (A : Option Addr) (l : List Ptr.Nd) (c i : Nat) (w : World) (hD0 : w.cell? ⟨D, 0, none⟩ = some (.slice A l.length c)) (hD2 : w.cell? ⟨D, 2, none⟩ = some (.slice (some ⟨gl, 0, none⟩) l.length l.length)) (hD3 : w.cell? ⟨D, 3, none⟩ = some (.int .i64 tp))
    (hBF : if Ptr.par l i < 0 then tp = Ptr.lastC l (Ptr.par l i) i else w.cell? ⟨gl, (Ptr.par l i).toNat, none⟩ = some (.int .i64 (Ptr.lastC l (Ptr.par l i) i)))
    (hr : RdN w A l) (hi : i < l.length) (hP : -1 ≤ Ptr.par l i ∧ Ptr.par l i < i) (hl : l.length ≤ 100000) (hn : (Ptr.nam l i).length ≤ 9223372036854775807) (hv : (Ptr.val l i).length ≤ 9223372036854775807) (hE : TEnv w) (h255 : Ptr.kin l i ≤ 255) :
    Calls Tryz.prog 46 #[.pointer (some ⟨D, 0, none⟩), .int .i64 i] w fun e w' => e = .returned (.bool (Ptr.fitsB l i)) ∧ Below w.heap.size w w' := by
  unfold Ptr.fitsB Ptr.fitsK
  by_cases k2 : Ptr.kin l i = 2
  · have h := pfits_2 D gl tp A l c i w hD0 hD2 hD3 hBF hr hi hP hl hn hv hE k2
    rw [if_pos k2, ← within_in]
    have e : (Pch.nameL (Ptr.nam l i) && (decide (Ptr.val l i = []) && withinB true true true l (Ptr.par l i))) = (Pch.textsL (Ptr.val l i) && decide ((Ptr.val l i).length ≤ 65536) && (withinB true true true l (Ptr.par l i) && Pch.nameL (Ptr.nam l i) && decide (Ptr.val l i = []))) := by
      by_cases hz : Ptr.val l i = []
      · rw [hz, show Pch.textsL [] = true from rfl, decide_eq_true (show ([] : List UInt8).length ≤ 65536 by simp)]
        cases withinB true true true l (Ptr.par l i) <;> cases Pch.nameL (Ptr.nam l i) <;> rfl
      · rw [decide_eq_false hz]
        cases withinB true true true l (Ptr.par l i) <;> cases Pch.nameL (Ptr.nam l i) <;> simp
    rw [← e]
    exact h
  rw [if_neg k2]
  by_cases k3 : Ptr.kin l i = 3
  · have h := pfits_3 D gl tp A l c i w hD0 hD2 hD3 hBF hr hi hP hl hn hv hE k3
    rw [if_pos k3, ← within_elem, ← freeFrom_eq]
    generalize Pch.nameL (Ptr.nam l i) = a at h ⊢
    generalize decide ((Ptr.val l i).length ≤ 65536) = b at h ⊢
    generalize Pch.textsL (Ptr.val l i) = d at h ⊢
    generalize withinB false false true l (Ptr.par l i) = f at h ⊢
    generalize decide (Ptr.lastC l (Ptr.par l i) i < 0) = g at h ⊢
    generalize freeFrom l (Ptr.nam l i) i ((Ptr.par l i).toNat + 1) = k at h ⊢
    rw [show (d && b && (f && a && g && k)) = (a && (b && (d && (f && (g && k))))) by cases a <;> cases b <;> cases d <;> cases f <;> cases g <;> cases k <;> rfl]
    exact h
  rw [if_neg k3]
  by_cases k4 : Ptr.kin l i = 4
  · have h := pfits_4 D gl tp A l c i w hD0 hD2 hD3 hBF hr hi hP hl hn hv hE k4
    rw [if_pos k4, ← within_under, ← no_name]
    have e9 : (!decide (Ptr.kin l (Ptr.lastC l (Ptr.par l i) i).toNat = 4)) = !(Ptr.kin l (Ptr.lastC l (Ptr.par l i) i).toNat == 4) := rfl
    rw [e9]
    generalize Pch.nameL (Ptr.nam l i) = a at h ⊢
    generalize decide ((Ptr.val l i).length ≤ 65536) = b at h ⊢
    generalize Pch.textsL (Ptr.val l i) = d at h ⊢
    generalize withinB true false true l (Ptr.par l i) = f at h ⊢
    generalize decide (Ptr.nam l i = []) = g at h ⊢
    generalize decide (Ptr.val l i = []) = k at h ⊢
    generalize (decide (Ptr.lastC l (Ptr.par l i) i < 0) || !(Ptr.kin l (Ptr.lastC l (Ptr.par l i) i).toNat == 4)) = m at h ⊢
    rw [show (d && b && (f && (!a && g) && !k && m)) = (!a && (g && (!k && (b && (d && (f && m)))))) by cases a <;> cases b <;> cases d <;> cases f <;> cases g <;> cases k <;> cases m <;> rfl]
    exact h
  rw [if_neg k4]
  by_cases k5 : Ptr.kin l i = 5
  · have h := pfits_5 D gl tp A l c i w hD0 hD2 hD3 hBF hr hi hP hl hn hv hE k5
    rw [if_pos k5, ← within_in, ← no_name]
    generalize Pch.nameL (Ptr.nam l i) = a at h ⊢
    generalize decide ((Ptr.val l i).length ≤ 65536) = b at h ⊢
    generalize Pch.textsL (Ptr.val l i) = d at h ⊢
    generalize withinB true true true l (Ptr.par l i) = f at h ⊢
    generalize decide (Ptr.nam l i = []) = g at h ⊢
    generalize Ptr.has2 45 45 (Ptr.val l i) = k at h ⊢
    generalize decide ((Ptr.val l i).getLast? = some 45) = m at h ⊢
    rw [show (d && b && (f && (!a && g) && !k && !m)) = (!a && (g && (b && (d && (f && (!k && !m)))))) by cases a <;> cases b <;> cases d <;> cases f <;> cases g <;> cases k <;> cases m <;> rfl]
    exact h
  rw [if_neg k5]
  by_cases k6 : Ptr.kin l i = 6
  · have h := pfits_6 D gl tp A l c i w hD0 hD2 hD3 hBF hr hi hP hl hn hv hE k6
    rw [if_pos k6, ← within_in]
    generalize Pch.nameL (Ptr.nam l i) = a at h ⊢
    generalize decide ((Ptr.val l i).length ≤ 65536) = b at h ⊢
    generalize Pch.textsL (Ptr.val l i) = d at h ⊢
    generalize withinB true true true l (Ptr.par l i) = f at h ⊢
    generalize Ptr.isXml (Ptr.nam l i) = g at h ⊢
    generalize Ptr.has2 63 62 (Ptr.val l i) = k at h ⊢
    generalize Ptr.noBlank (Ptr.val l i) = m at h ⊢
    rw [show (d && b && (f && a && !g && !k && m)) = (a && (b && (d && (f && (!g && (!k && m)))))) by cases a <;> cases b <;> cases d <;> cases f <;> cases g <;> cases k <;> cases m <;> rfl]
    exact h
  rw [if_neg k6, Bool.and_false]
  exact pfits_no D A l c i w hD0 hr hi hE (by omega) h255
end Go.Proofs.YtemfmidhekdekaaGreatDoor.Wtr
namespace Go.Proofs.YtemfmidhekdekaaGreatDoor.Wtr
open Go Go.RowKit Go.Proofs.YtemfmidhekdekaaGreatDoor.Kb

/-- the state of the check: the row of nodes, how deep each is, the last child of each, the last top -/
structure St (w : World) (gd gl D n : Nat) (tv : Value) (tp : Int) (fd fl : Nat → Value) (wx : World) : Prop where
  below : Below w.heap.size w wx
  deep : wx.rowIs gd 3 n fd
  last : wx.rowIs gl 3 n fl
  blk : wx.heap[D]? = some (.cells #[tv, .slice (some ⟨gd, 0, none⟩) n n, .slice (some ⟨gl, 0, none⟩) n n, .int .i64 tp] 81 (0, 0))
  lo : w.heap.size ≤ gd ∧ w.heap.size ≤ gl ∧ w.heap.size ≤ D
  ne : gd ≠ gl ∧ D ≠ gd ∧ D ≠ gl
namespace St
variable {w wx wy : World} {gd gl D n : Nat} {tv : Value} {tp : Int} {fd fl : Nat → Value}
theorem lt (h : St w gd gl D n tv tp fd fl wx) : gd < wx.heap.size ∧ gl < wx.heap.size ∧ D < wx.heap.size := ⟨h.deep.lt, h.last.lt, (Array.getElem?_eq_some_iff.1 h.blk).1⟩
theorem cells (h : St w gd gl D n tv tp fd fl wx) : wx.cell? ⟨D, 0, none⟩ = some tv ∧ wx.cell? ⟨D, 1, none⟩ = some (.slice (some ⟨gd, 0, none⟩) n n) ∧ wx.cell? ⟨D, 2, none⟩ = some (.slice (some ⟨gl, 0, none⟩) n n) ∧ wx.cell? ⟨D, 3, none⟩ = some (.int .i64 tp) ∧ wx.frozen? ⟨D, 3, none⟩ = false :=
  ⟨Joins.cell_of_block h.blk 0, Joins.cell_of_block h.blk 1, Joins.cell_of_block h.blk 2, Joins.cell_of_block h.blk 3, Joins.unfrozen_of_block h.blk 3⟩
theorem later (h : St w gd gl D n tv tp fd fl wx) (hb : Below wx.heap.size wx wy) : St w gd gl D n tv tp fd fl wy :=
  ⟨h.below.trans (hb.mono h.below.size), h.deep.of_block (hb.block _ h.lt.1), h.last.of_block (hb.block _ h.lt.2.1), (hb.block _ h.lt.2.2).trans h.blk, h.lo, h.ne⟩
theorem alloc (h : St w gd gl D n tv tp fd fl wx) (o : Obj) : St w gd gl D n tv tp fd fl (wx.alloc o) := h.later ((Below.refl _ _).alloc (Nat.le_refl _) o)
theorem setL (h : St w gd gl D n tv tp fd fl wx) (i : Nat) (z : Value) : St w gd gl D n tv tp fd (fun j => if j = i then z else fl j) (wx.setCell ⟨gl, i, none⟩ z) :=
  ⟨h.below.setCell h.lo.2.1 z, h.deep.setOther (a := ⟨gl, i, none⟩) h.ne.1 z, h.last.set i z, (Below.heap_setCell wx ⟨gl, i, none⟩ z D h.ne.2.2).trans h.blk, h.lo, h.ne⟩
theorem setD (h : St w gd gl D n tv tp fd fl wx) (i : Nat) (z : Value) : St w gd gl D n tv tp (fun j => if j = i then z else fd j) fl (wx.setCell ⟨gd, i, none⟩ z) :=
  ⟨h.below.setCell h.lo.1 z, h.deep.set i z, h.last.setOther (a := ⟨gd, i, none⟩) (fun e => h.ne.1 e.symm) z, (Below.heap_setCell wx ⟨gd, i, none⟩ z D h.ne.2.1).trans h.blk, h.lo, h.ne⟩
theorem setT (h : St w gd gl D n tv tp fd fl wx) (z : Int) : St w gd gl D n tv z fd fl (wx.setCell ⟨D, 3, none⟩ (.int .i64 z)) :=
  ⟨h.below.setCell h.lo.2.2 _, h.deep.setOther (a := ⟨D, 3, none⟩) (fun e => h.ne.2.1 e.symm) _, h.last.setOther (a := ⟨D, 3, none⟩) (fun e => h.ne.2.2 e.symm) _, Joins.block_setCell h.blk _, h.lo, h.ne⟩
theorem congr {fd' fl' : Nat → Value} (h : St w gd gl D n tv tp fd fl wx) (e1 : ∀ j, j < n → fd j = fd' j) (e2 : ∀ j, j < n → fl j = fl' j) : St w gd gl D n tv tp fd' fl' wx :=
  ⟨h.below, h.deep.congr e1, h.last.congr e2, h.blk, h.lo, h.ne⟩
end St
end Go.Proofs.YtemfmidhekdekaaGreatDoor.Wtr
namespace Go.Proofs.YtemfmidhekdekaaGreatDoor.Wtr
open Go Go.RowKit Go.Proofs.YtemfmidhekdekaaGreatDoor.Kb

theorem infoI : (Tryz.prog.info? 3).map (fun i => (i.zero, i.size, i.bytes)) = some (some (.int .i64 0), 1, 8) := by kernel_rfl
/-- the nodes' sizes, as they come in -/
def FitP (l : List Ptr.Nd) : Prop := ∀ i, (Ptr.nam l i).length ≤ 9223372036854775807 ∧ (Ptr.val l i).length ≤ 9223372036854775807 ∧ Ptr.kin l i ≤ 255
/-- how deep each node ahead of k is; nought from k on -/
def Deps (l : List Ptr.Nd) (k : Nat) (f : Nat → Value) : Prop := (∀ q, q < k → f q = .int .i64 (Ptr.depN l q)) ∧ ∀ q, k ≤ q → f q = .int .i64 0
/-- the last child of each node ahead of k -/
def Lasts (l : List Ptr.Nd) (k : Nat) (f : Nat → Value) : Prop := ∀ q : Nat, q < k → f q = .int .i64 (Ptr.lastC l q k)
theorem deps_zero (l : List Ptr.Nd) : Deps l 0 fun _ => .int .i64 0 := ⟨fun q h => by omega, fun _ _ => rfl⟩
theorem lasts_zero (l : List Ptr.Nd) (f : Nat → Value) : Lasts l 0 f := fun q h => by omega
theorem st_made1 (A : Option Addr) (l : List Ptr.Nd) (c : Nat) (w : World) : St w (w.heap.size) (w.heap.size + 1) (w.heap.size + 1 + 1) l.length (.slice A l.length c) (-1) (fun _ => .int .i64 0) (fun _ => .int .i64 0)
    (((w.alloc (.cells (madeCells #[.int .i64 0] l.length) 3)).alloc (.cells (madeCells #[.int .i64 0] l.length) 3)).alloc (.cells #[.slice A l.length c, .slice (some ⟨w.heap.size, 0, none⟩) l.length l.length, .slice (some ⟨w.heap.size + 1, 0, none⟩) l.length l.length, .int .i64 (-1)] 81)).drew := by
  have r1 := World.rowIs_made w (.int .i64 0) l.length 3
  have r2 := World.rowIs_made (w.alloc (.cells (madeCells #[.int .i64 0] l.length) 3)) (.int .i64 0) l.length 3
  rw [World.size_alloc] at r2
  refine ⟨(((box_below w _).alloc (by simp) _).alloc (by simp; omega) _).drew, ((r1.alloc _).alloc _).drew, (r2.alloc _).drew, ?_, by omega, by omega⟩
  have h := heap_alloc_new ((w.alloc (.cells (madeCells #[.int .i64 0] l.length) 3)).alloc (.cells (madeCells #[.int .i64 0] l.length) 3)) (.cells #[.slice A l.length c, .slice (some ⟨w.heap.size, 0, none⟩) l.length l.length, .slice (some ⟨w.heap.size + 1, 0, none⟩) l.length l.length, .int .i64 (-1)] 81)
  rw [World.size_alloc, World.size_alloc] at h
  exact h
theorem st_made2 (A : Option Addr) (l : List Ptr.Nd) (c : Nat) (w : World) : St w (w.heap.size + 1) (w.heap.size) (w.heap.size + 1 + 1) l.length (.slice A l.length c) (-1) (fun _ => .int .i64 0) (fun _ => .int .i64 0)
    (((w.alloc (.cells (madeCells #[.int .i64 0] l.length) 3)).alloc (.cells (madeCells #[.int .i64 0] l.length) 3)).alloc (.cells #[.slice A l.length c, .slice (some ⟨w.heap.size + 1, 0, none⟩) l.length l.length, .slice (some ⟨w.heap.size, 0, none⟩) l.length l.length, .int .i64 (-1)] 81)).drew := by
  have r1 := World.rowIs_made w (.int .i64 0) l.length 3
  have r2 := World.rowIs_made (w.alloc (.cells (madeCells #[.int .i64 0] l.length) 3)) (.int .i64 0) l.length 3
  rw [World.size_alloc] at r2
  refine ⟨(((box_below w _).alloc (by simp) _).alloc (by simp; omega) _).drew, (r2.alloc _).drew, ((r1.alloc _).alloc _).drew, ?_, by omega, by omega⟩
  have h := heap_alloc_new ((w.alloc (.cells (madeCells #[.int .i64 0] l.length) 3)).alloc (.cells (madeCells #[.int .i64 0] l.length) 3)) (.cells #[.slice A l.length c, .slice (some ⟨w.heap.size + 1, 0, none⟩) l.length l.length, .slice (some ⟨w.heap.size, 0, none⟩) l.length l.length, .int .i64 (-1)] 81)
  rw [World.size_alloc, World.size_alloc] at h
  exact h
theorem far_box (w : World) (cs : Array Value) (t : TypeId) (g i j : Nat) {u v : Value} (hg : w.heap.size ≠ g) (h : cs[j]? = some v) : ((w.alloc (.cells cs t)).setCell ⟨g, i, none⟩ u).cell? ⟨w.heap.size, j, none⟩ = some v := by
  rw [World.cell?_of_block (w := w.alloc (.cells cs t)) (a := ⟨w.heap.size, j, none⟩) (Below.heap_setCell _ _ _ _ hg), World.cell?_alloc_new]
  exact h
/-- what fits asks of the last sibling -/
theorem before_ok {w W : World} {gd gl D n k : Nat} {tv : Value} {tp : Int} {fd fl : Nat → Value} {l : List Ptr.Nd} (h : St w gd gl D n tv tp fd (fun j => if j = k then .int .i64 (-1) else fl j) W) (hfl : Lasts l k fl) (hk : k < n) (hR : Ptr.Rng l k) (ho : Ptr.openB l k = true) (hp : 0 ≤ Ptr.par l k ∨ tp = Ptr.lastC l (-1) k) :
    if Ptr.par l k < 0 then tp = Ptr.lastC l (Ptr.par l k) k else W.cell? ⟨gl, (Ptr.par l k).toNat, none⟩ = some (.int .i64 (Ptr.lastC l (Ptr.par l k) k)) := by
  have hr := Ptr.open_range hR ho
  by_cases e : Ptr.par l k < 0
  · rw [if_pos e]
    have e1 : Ptr.par l k = -1 := by omega
    rw [e1]
    exact hp.elim (fun h => by omega) id
  · rw [if_neg e, h.last.cell (i := (Ptr.par l k).toNat) (by omega), if_neg (by omega), hfl _ (by omega)]
    congr 4
    omega
theorem set_far {w : World} {b i g j : Nat} {u v : Value} (hg : b ≠ g) (h : w.cell? ⟨b, i, none⟩ = some v) : (w.setCell ⟨g, j, none⟩ u).cell? ⟨b, i, none⟩ = some v := by
  rw [World.cell?_of_block (w := w) (a := ⟨b, i, none⟩) (Below.heap_setCell _ _ _ _ hg)]
  exact h
theorem deps_next {l : List Ptr.Nd} {k : Nat} {fd g : Nat → Value} (h : Deps l k fd) (hk : g k = .int .i64 (Ptr.depN l k)) (ho : ∀ j, j ≠ k → g j = fd j) : Deps l (k + 1) g := by
  refine ⟨fun q hq => ?_, fun q hq => ?_⟩
  · by_cases e : q = k
    · subst e; exact hk
    · rw [ho q e]; exact h.1 q (by omega)
  · rw [ho q (by omega)]; exact h.2 q (by omega)
theorem lasts_next {l : List Ptr.Nd} {k : Nat} {fl : Nat → Value} (h : Lasts l k fl) (hR : Ptr.Rng l k) (hn : Ptr.par l k < 0 ∨ Ptr.kin l k = 3) : Lasts l (k + 1) (fun j => if j = k then .int .i64 (-1) else fl j) := fun q hq => by
  rw [Ptr.lastC_step, if_neg (fun e => hn.elim (fun h => by omega) (fun h => e.2 h))]
  dsimp only
  by_cases e : q = k
  · subst e
    rw [if_pos rfl, Ptr.lastC_low hR q q (Nat.le_refl _) (by omega)]
  · rw [if_neg e]
    exact h q (by omega)
theorem lasts_put {l : List Ptr.Nd} {k p : Nat} {fl : Nat → Value} (h : Lasts l k fl) (hR : Ptr.Rng l k) (hp : Ptr.par l k = p) (hk : Ptr.kin l k ≠ 3) : Lasts l (k + 1) (fun j => if j = p then .int .i64 k else if j = k then .int .i64 (-1) else fl j) := fun q hq => by
  rw [Ptr.lastC_step, hp]
  dsimp only
  by_cases e : q = p
  · subst e
    rw [if_pos rfl, if_pos ⟨rfl, hk⟩]
  · rw [if_neg e, if_neg (c := (p : Int) = (q : Int) ∧ Ptr.kin l k ≠ 3) (fun h => e (by have := h.1; omega))]
    by_cases e2 : q = k
    · subst e2
      rw [if_pos rfl, Ptr.lastC_low hR q q (Nat.le_refl _) (by omega)]
    · rw [if_neg e2]
      exact h q (by omega)
end Go.Proofs.YtemfmidhekdekaaGreatDoor.Wtr
namespace Go.Proofs.YtemfmidhekdekaaGreatDoor.Wtr
open Go Go.RowKit Go.Proofs.YtemfmidhekdekaaGreatDoor.Kb

set_option maxRecDepth 100000 in
set_option maxHeartbeats 16000000 in
theorem all_frag (A : Option Addr) (l : List Ptr.Nd) (c : Nat) (w : World) (hr : RdN w A l) (hl : l.length ≤ 100000) (hf : FitP l) (hE : TEnv w) :
    Calls Tryz.prog 27 #[.slice A l.length c, .bool false] w fun e w' => e = .returned (.int .i64 (Ptr.chk l false)) ∧ Below w.heap.size w w' := by
  have HRD := Kept.mk hr
  have HF := Kept.mk hf
  have HEV := Kept.mk hE
  clear hr hf hE
  by_cases hbig : 16384 < l.length
  · have hX : Kept (Ptr.chk l false = 3) := ⟨by unfold Ptr.chk; rw [if_pos hbig]⟩
    have b1 : (16384 : Int) < (l.length : Int) := by omega
    clear hbig
    go_enter Tryz.func27, Tryz.ntmps27
    go_wp2
    go_ret
    exact ⟨ret_i64 (by rw [hX.out]; rfl), Below.refl _ _⟩
  have b1 : ¬ (16384 : Int) < (l.length : Int) := by omega
  have HBG := Kept.mk hbig
  have hmk := fun kl kc wx => run_make_row' (P := Tryz.prog) 39 3 (.int .i64 0) 8 Tryz.underlying39 infoI rfl kl kc l.length (by omega) (by omega) wx
  have hbox := hmk
  clear hbox hbig
  go_enter Tryz.func27, Tryz.ntmps27
  go_wp2
  go_region
  · clear hmk
    go_wp2
    go_loopw [6, 7, 24] (fun e d i wx => ∃ (k E M : Nat) (tp : Int) (fd fl : Nat → Value), k ≤ l.length ∧ i = .int .i64 k ∧ e = .int .i64 E ∧ d = .int .i64 M ∧ Kept (Ptr.pallB l false k = true) ∧ Kept (Ptr.elems l k = E) ∧ Kept (Ptr.deepest l k = M) ∧ Kept (St w (w.heap.size) (w.heap.size + 1) (w.heap.size + 1 + 1) l.length (.slice A l.length c) tp fd fl wx) ∧ Kept (Deps l k fd) ∧ Kept (Lasts l k fl) ∧ Kept (tp = Ptr.lastC l (-1) k)) (fun _ _ i _ => l.length - (intOf i).toNat)
    case atStart => exact ⟨0, 0, 0, -1, fun _ => .int .i64 0, fun _ => .int .i64 0, by omega, rfl, rfl, rfl, ⟨rfl⟩, ⟨rfl⟩, ⟨rfl⟩, ⟨st_made1 A l c w⟩, ⟨deps_zero l⟩, ⟨lasts_zero l _⟩, ⟨rfl⟩⟩
    case round =>
      obtain ⟨k, E, M, tp, fd, fl, hk, rfl, rfl, rfl, HA, HEL, HDP, HS, HFD, HFL, HTP⟩ := hrel
      have i0 : (0 : Int) ≤ (k : Int) := by omega
      by_cases hlt : k < l.length
      · have i1 : (k : Int) < (l.length : Int) := by omega
        have hEk : E ≤ k := by rw [← HEL.out]; exact Ptr.elems_le' l k
        have hS := HS.out
        have hrl := HRD.out.below hS.below
        obtain ⟨b, off, rfl, c0, c1, c2, c3⟩ := hrl.at_ hlt
        obtain ⟨x0, x1, x2, x3, x4⟩ := hS.cells
        have y2 : ∀ o, (wr.alloc o).cell? ⟨w.heap.size + 1 + 1, 2, none⟩ = _ := fun o => cell_keep (box_below wr o) x2
        have y4 : ∀ o, (wr.alloc o).cell? ⟨w.heap.size + 1, k, none⟩ = some (fl k) := fun o => cell_keep (box_below wr o) (hS.last.cell hlt)
        have y5 : ∀ o, (wr.alloc o).frozen? ⟨w.heap.size + 1, k, none⟩ = false := fun o => ((hS.alloc o).last.frozen k)
        simp only at c0 c1 c2 c3
        obtain ⟨X, hX⟩ : ∃ X : ByteArray, X = ⟨(Ptr.nam l k).toArray⟩ := ⟨_, rfl⟩
        obtain ⟨V, hV⟩ : ∃ V : ByteArray, V = ⟨(Ptr.val l k).toArray⟩ := ⟨_, rfl⟩
        have hXl : X.toList = Ptr.nam l k := by rw [hX, ByteArray.toList_eq]
        have hVl : V.toList = Ptr.val l k := by rw [hV, ByteArray.toList_eq]
        rw [← hX] at c1
        rw [← hV] at c2
        have HXL := Kept.mk hXl; have HVL := Kept.mk hVl
        obtain ⟨W, hW⟩ : ∃ W, W = (wr.alloc (.cells #[.int .u8 (Ptr.kin l k), .string X, .string V, .int .i64 (Ptr.par l k)] 32)).setCell ⟨w.heap.size + 1, k, none⟩ (.int .i64 (-1)) := ⟨_, rfl⟩
        have hSW : St w (w.heap.size) (w.heap.size + 1) (w.heap.size + 1 + 1) l.length (.slice (some ⟨b, off, none⟩) l.length c) tp fd (fun j => if j = k then .int .i64 (-1) else fl j) W := by rw [hW]; exact (hS.alloc _).setL k (.int .i64 (-1))
        have hgl : w.heap.size + 1 ≠ wr.heap.size := by have := hS.lt; omega
        have n0 : W.cell? ⟨wr.heap.size, 0, none⟩ = some (.int .u8 (Ptr.kin l k)) := by rw [hW]; exact far_box _ _ _ _ _ _ (fun e => hgl e.symm) rfl
        have n1 : W.cell? ⟨wr.heap.size, 1, none⟩ = some (.string X) := by rw [hW]; exact far_box _ _ _ _ _ _ (fun e => hgl e.symm) rfl
        have n2 : W.cell? ⟨wr.heap.size, 2, none⟩ = some (.string V) := by rw [hW]; exact far_box _ _ _ _ _ _ (fun e => hgl e.symm) rfl
        have n3 : W.cell? ⟨wr.heap.size, 3, none⟩ = some (.int .i64 (Ptr.par l k)) := by rw [hW]; exact far_box _ _ _ _ _ _ (fun e => hgl e.symm) rfl
        have hRW := HRD.out.below hSW.below
        have hRk := Ptr.allB_rng (Ptr.pallB_allB HA.out)
        have HWW := Kept.mk hW; have HSW := Kept.mk hSW; have HRW := Kept.mk hRW
        have HN0 := Kept.mk n0; have HN1 := Kept.mk n1; have HN2 := Kept.mk n2; have HN3 := Kept.mk n3
        have cO := open_any (w.heap.size + 1 + 1) (some ⟨b, off, none⟩) l c k W hSW.cells.1 hRW hlt hRk hl
        have cF := fun (ho : Ptr.openB l k = true) (hp : 0 ≤ Ptr.par l k ∨ tp = Ptr.lastC l (-1) k) => fits_any (w.heap.size + 1 + 1) (w.heap.size + 1) tp (some ⟨b, off, none⟩) l c k W hSW.cells.1 hSW.cells.2.2.1 hSW.cells.2.2.2.1 (before_ok hSW HFL.out hlt hRk ho hp) hRW hlt (Ptr.open_range hRk ho) hl (HF.out k).1 (HF.out k).2.1 (HEV.out.below hSW.below) (HF.out k).2.2
        have hbad : Ptr.pgood l false k = false → Kept (Ptr.chk l false = 4) := fun e => ⟨Ptr.chk_no HBG.out (Ptr.pallB_no e _ hlt)⟩
        have HBAD := Kept.mk hbad
        have hgood : Ptr.pgood l false k = true → Kept (Ptr.pallB l false (k + 1) = true) := fun e => ⟨by unfold Ptr.pallB; rw [HA.out, e]; rfl⟩
        have HGOOD := Kept.mk hgood
        have hRO := fun (ho : Ptr.openB l k = true) => hRk.succ ho
        have HRO := Kept.mk hRO; have hRk2 := Kept.mk hRk
        have hPG : Ptr.pgood l false k = (Ptr.openB l k && (if (false && k == 0) = true then Ptr.headB l k else !(false && decide (Ptr.par l k < 0)) && Ptr.fitsB l k)) := rfl
        have CF := Kept.mk cF
        have HPG := Kept.mk hPG
        have HK : Kept (∃ K : Nat, K = Ptr.kin l k) := ⟨_, rfl⟩
        have HLT := Kept.mk hlt
        clear hS hrl x0 x1 x2 x3 x4 hX hV hXl hVl hSW hgl hRW hRk cF hbad hgood hRO hPG hW n0 n1 n2 n3
        generalize hoo : Ptr.openB l k = O at cO
        have HOO := Kept.mk hoo
        clear hoo
        go_wp2_with (fail)
        rw [← HWW.out]
        refine cO.mono ?_; rintro e w' ⟨rfl, rfl⟩
        clear y2 y4 y5 c0 c1 c2 c3 cO
        cases O with
        | false =>
          have hX := HBAD.out (by rw [HPG.out, HOO.out]; rfl)
          go_wp2
          go_ret
          exact ⟨ret_i64 (by rw [hX.out]; rfl), HSW.out.below⟩
        | true =>
          have n0 := HN0.out; have n1 := HN1.out; have n2 := HN2.out; have n3 := HN3.out
          have cF := CF.out HOO.out (.inr HTP.out)
          have hPG2 : Ptr.pgood l false k = Ptr.fitsB l k := by rw [HPG.out, HOO.out]; rfl
          generalize Ptr.fitsB l k = B at cF hPG2
          have HPG2 := Kept.mk hPG2
          have CF2 := Kept.mk cF
          have HR1 := Kept.mk (HRO.out HOO.out)
          clear hPG2 cF
          go_wp2_with (fail)
          refine CF2.out.mono ?_; rintro e w3 ⟨rfl, hb3⟩
          have n0 := cell_keep hb3 HN0.out; have n1 := cell_keep hb3 HN1.out; have n2 := cell_keep hb3 HN2.out; have n3 := cell_keep hb3 HN3.out
          have hS3 := HSW.out.later hb3
          obtain ⟨x0, x1, x2, x3, x4⟩ := hS3.cells
          have HS3 := Kept.mk hS3
          have HB3 := Kept.mk hb3
          have HSZ : Kept (wr.heap.size < w3.heap.size) := ⟨cell_lt n0⟩
          clear hS3 hb3
          cases B with
          | false =>
            have hX := HBAD.out HPG2.out
            go_wp2
            go_ret
            exact ⟨ret_i64 (by rw [hX.out]; rfl), HS3.out.below⟩
          | true =>
            have HA2 := HGOOD.out HPG2.out
            obtain ⟨K, hK⟩ : ∃ K, Ptr.kin l k = K := ⟨_, rfl⟩
            obtain ⟨P, hP⟩ : ∃ P, Ptr.par l k = P := ⟨_, rfl⟩
            rw [hK] at n0
            rw [hP] at n3
            have hpr := HR1.out k (by omega)
            rw [hP] at hpr
            have hg1 : wr.heap.size ≠ w.heap.size := by have := HS.out.lt; omega
            have hg2 : wr.heap.size ≠ w.heap.size + 1 := by have := HS.out.lt; omega
            have hg3 : wr.heap.size ≠ w.heap.size + 1 + 1 := by have := HS.out.lt; omega
            have HP := Kept.mk hP; have HKK := Kept.mk hK
            clear hP hK
            by_cases hp : P < 0
            · have y3 := HS3.out.deep.cell hlt
              rw [HFD.out.2 k (Nat.le_refl _)] at y3
              have y4 := HS3.out.deep.frozen k
              by_cases k2 : K = 2
              · subst k2
                have hdn : Ptr.depN l k = 1 := by rw [Ptr.depN_up HR1.out, HKK.out, HP.out, if_pos rfl, if_pos hp]
                have hE2 : Kept (Ptr.elems l (k + 1) = E) := ⟨by rw [Ptr.elems_at, HEL.out, HKK.out, HP.out, if_neg (fun e => by omega), Nat.add_zero]⟩
                have hM2 : Kept (Ptr.deepest l (k + 1) = max M (Ptr.depN l k)) := ⟨by rw [Ptr.deepest_at, HDP.out, HKK.out, if_pos rfl]⟩
                have hT2 : Kept ((k : Int) = Ptr.lastC l (-1) (k + 1)) := ⟨by rw [Ptr.lastC_step, if_pos ⟨by rw [HP.out]; omega, by rw [HKK.out]; omega⟩]⟩
                have hL2 : Kept (Lasts l (k + 1) (fun j => if j = k then .int .i64 (-1) else fl j)) := ⟨lasts_next HFL.out (fun q hq => HR1.out q (by omega)) (.inl (by rw [HP.out]; exact hp))⟩
                have hD2 : Kept (Deps l (k + 1) (fun j => if j = k then .int .i64 1 else fd j)) := ⟨deps_next HFD.out (by rw [if_pos rfl, hdn]; rfl) (fun j hj => by rw [if_neg hj])⟩
                have pe : (P == 0) = false := by simp; omega
                have hS4 := HS3.out.setD k (.int .i64 1)
                obtain ⟨u0, u1, u2, u3, u4⟩ := hS4.cells
                have v1 := hS4.deep.cell hlt
                rw [if_pos rfl] at v1
                have m0 := set_far (w := w3) (g := w.heap.size) (j := k) (u := .int .i64 1) hg1 n0
                have m3 := set_far (w := w3) (g := w.heap.size) (j := k) (u := .int .i64 1) hg1 n3
                have HSN := Kept.mk (hS4.setT k)
                clear hS4
                go_wp2
                go_roundw
                case rel => exact ⟨k + 1, E, max M (Ptr.depN l k), k, _, _, by omega, by go_num, by go_num, by rw [hdn]; congr 1; omega, HA2, hE2, hM2, ⟨HSN.out⟩, hD2, hL2, hT2⟩
                case measure => simp [intOf]; omega
              by_cases k3 : K = 3
              · subst k3
                have hdn : Ptr.depN l k = 0 := by rw [Ptr.depN_up HR1.out, HKK.out, HP.out, if_neg (by omega), if_pos hp]
                have hE2 : Kept (Ptr.elems l (k + 1) = E) := ⟨by rw [Ptr.elems_at, HEL.out, HKK.out, HP.out, if_neg (fun e => by omega), Nat.add_zero]⟩
                have hM2 : Kept (Ptr.deepest l (k + 1) = M) := ⟨by rw [Ptr.deepest_at, HDP.out, HKK.out, if_neg (by omega)]⟩
                have hT2 : Kept (tp = Ptr.lastC l (-1) (k + 1)) := ⟨by rw [Ptr.lastC_step, if_neg (fun e => e.2 HKK.out)]; exact HTP.out⟩
                have hL2 : Kept (Lasts l (k + 1) (fun j => if j = k then .int .i64 (-1) else fl j)) := ⟨lasts_next HFL.out (fun q hq => HR1.out q (by omega)) (.inl (by rw [HP.out]; exact hp))⟩
                have hD2 : Kept (Deps l (k + 1) fd) := ⟨deps_next HFD.out (by rw [hdn, HFD.out.2 k (Nat.le_refl _)]; rfl) (fun j hj => rfl)⟩
                have HSN := HS3
                go_wp2
                go_roundw
                case rel => exact ⟨k + 1, E, M, tp, _, _, by omega, by go_num, by go_num, rfl, HA2, hE2, hM2, ⟨HSN.out⟩, hD2, hL2, hT2⟩
                case measure => simp [intOf]; omega
              have e2 : ((K : Int) == 2) = false := by simp; omega
              have e3 : ((K : Int) == 3) = false := by simp; omega
              have hdn : Ptr.depN l k = 0 := by rw [Ptr.depN_up HR1.out, HKK.out, HP.out, if_neg (by omega), if_pos hp]
              have hE2 : Kept (Ptr.elems l (k + 1) = E) := ⟨by rw [Ptr.elems_at, HEL.out, HKK.out, HP.out, if_neg (fun e => by omega), Nat.add_zero]⟩
              have hM2 : Kept (Ptr.deepest l (k + 1) = M) := ⟨by rw [Ptr.deepest_at, HDP.out, HKK.out, if_neg (by omega)]⟩
              have hT2 : Kept ((k : Int) = Ptr.lastC l (-1) (k + 1)) := ⟨by rw [Ptr.lastC_step, if_pos ⟨by rw [HP.out]; omega, by rw [HKK.out]; omega⟩]⟩
              have hL2 : Kept (Lasts l (k + 1) (fun j => if j = k then .int .i64 (-1) else fl j)) := ⟨lasts_next HFL.out (fun q hq => HR1.out q (by omega)) (.inl (by rw [HP.out]; exact hp))⟩
              have hD2 : Kept (Deps l (k + 1) fd) := ⟨deps_next HFD.out (by rw [hdn, HFD.out.2 k (Nat.le_refl _)]; rfl) (fun j hj => rfl)⟩
              have HSN := Kept.mk (HS3.out.setT k)
              go_wp2
              go_roundw
              case rel => exact ⟨k + 1, E, M, k, _, _, by omega, by go_num, by go_num, rfl, HA2, hE2, hM2, ⟨HSN.out⟩, hD2, hL2, hT2⟩
              case measure => simp [intOf]; omega
            obtain ⟨p, rfl⟩ : ∃ p : Nat, P = p := ⟨P.toNat, by omega⟩
            have p0 : (0 : Int) ≤ (p : Int) := by omega
            have p1 : (p : Int) < (l.length : Int) := by omega
            have p2 : ¬ (p : Int) < 0 := by omega
            have hpk : p < k := by omega
            have y1 := HS3.out.deep.cell (i := p) (by omega)
            rw [HFD.out.1 p hpk] at y1
            have y3 := HS3.out.deep.cell hlt
            rw [HFD.out.2 k (Nat.le_refl _)] at y3
            have y4 := HS3.out.deep.frozen k
            have hdl := Ptr.depN_le l p
            have y6 := HS3.out.last.cell (i := p) (by omega)
            rw [if_neg (by omega), HFL.out p hpk] at y6
            have y7 := HS3.out.last.frozen p
            have y9 : (w3.drew.setCell ⟨w.heap.size, k, none⟩ (.int .i64 (Ptr.depN l p))).cell? ⟨w.heap.size, p, none⟩ = some (.int .i64 (Ptr.depN l p)) := by
              have h := ((HS3.out.later ((Below.refl _ _).drew)).setD k (.int .i64 (Ptr.depN l p))).deep.cell (i := p) (by omega)
              rw [if_neg (by omega), HFD.out.1 p hpk] at h
              exact h
            by_cases k2 : K = 2
            · subst k2
              have hdn : Ptr.depN l k = 1 + Ptr.depN l p := by rw [Ptr.depN_up HR1.out, HKK.out, HP.out, if_pos rfl, if_neg (by omega), Int.toNat_natCast]
              have hM2 : Kept (Ptr.deepest l (k + 1) = max M (Ptr.depN l k)) := ⟨by rw [Ptr.deepest_at, HDP.out, HKK.out, if_pos rfl]⟩
              have hT2 : Kept (tp = Ptr.lastC l (-1) (k + 1)) := ⟨by rw [Ptr.lastC_step, HP.out, if_neg (fun e => by omega)]; exact HTP.out⟩
              have hL2 : Kept (Lasts l (k + 1) (fun j => if j = p then .int .i64 k else if j = k then .int .i64 (-1) else fl j)) := ⟨lasts_put HFL.out (fun q hq => HR1.out q (by omega)) HP.out (by rw [HKK.out]; omega)⟩
              have hD2 : Kept (Deps l (k + 1) (fun j => if j = k then .int .i64 ((Ptr.depN l p : Int) + 1) else if j = k then .int .i64 (Ptr.depN l p) else fd j)) := ⟨deps_next HFD.out (by rw [if_pos rfl, hdn]; congr 1; omega) (fun j hj => by rw [if_neg hj, if_neg hj])⟩
              have hS4 := (HS3.out.later ((Below.refl _ _).drew)).setD k (.int .i64 (Ptr.depN l p))
              obtain ⟨u0, u1, u2, u3, u4⟩ := hS4.cells
              have v1 := hS4.deep.cell hlt
              rw [if_pos rfl] at v1
              have v2 := hS4.deep.frozen k
              have v3 := hS4.last.cell (i := p) (by omega)
              rw [if_neg (by omega), HFL.out p (by omega)] at v3
              have v4 := hS4.last.frozen p
              have m0 := set_far (w := w3.drew) (g := w.heap.size) (j := k) (u := .int .i64 (Ptr.depN l p)) hg1 n0
              have m3 := set_far (w := w3.drew) (g := w.heap.size) (j := k) (u := .int .i64 (Ptr.depN l p)) hg1 n3
              have hS5 := hS4.setD k (.int .i64 ((Ptr.depN l p : Int) + 1))
              obtain ⟨s0, s1, s2, s3, s4⟩ := hS5.cells
              have z1 := hS5.deep.cell hlt
              rw [if_pos rfl] at z1
              have z3 := hS5.last.cell (i := p) (by omega)
              rw [if_neg (by omega), HFL.out p (by omega)] at z3
              have z4 := hS5.last.frozen p
              have o0 := set_far (w := (w3.drew.setCell ⟨w.heap.size, k, none⟩ (.int .i64 (Ptr.depN l p)))) (g := w.heap.size) (j := k) (u := .int .i64 ((Ptr.depN l p : Int) + 1)) hg1 m0
              have o3 := set_far (w := (w3.drew.setCell ⟨w.heap.size, k, none⟩ (.int .i64 (Ptr.depN l p)))) (g := w.heap.size) (j := k) (u := .int .i64 ((Ptr.depN l p : Int) + 1)) hg1 m3
              have hS6 := (hS5.later ((Below.refl _ _).drew)).setL p (.int .i64 k)
              have r2 := hS6.cells.2.2.1
              have r3 := set_far (w := ((w3.drew.setCell ⟨w.heap.size, k, none⟩ (.int .i64 (Ptr.depN l p))).setCell ⟨w.heap.size, k, none⟩ (.int .i64 ((Ptr.depN l p : Int) + 1))).drew) (g := w.heap.size + 1) (j := p) (u := .int .i64 k) hg2 o3
              have HSN := Kept.mk hS6
              clear hS6
              clear hS4 hS5
              go_wp2_with (fail)
              go_region_held3 (fun wx => wx.cell? ⟨w.heap.size + 1 + 1, 1, none⟩ = some (.slice (some ⟨w.heap.size, 0, none⟩) l.length l.length) ∧ wx.cell? ⟨w.heap.size, p, none⟩ = some (.int .i64 (Ptr.depN l p)) ∧ wx.cell? ⟨wr.heap.size, 3, none⟩ = some (.int .i64 p)) (first | exact ⟨x1, y1, n3⟩ | exact ⟨u1, y9, m3⟩) (fail)
              go_wp2_with (fail)
              · rename_i hq _
                have hz : Kept (p = 0) := ⟨by have := hq; simp at this; omega⟩
                have hE2 : Kept (Ptr.elems l (k + 1) = E + 1) := ⟨by have hq := hz.out; rw [Ptr.elems_at, HEL.out, HKK.out, HP.out, if_pos ⟨rfl, by omega⟩]⟩
                go_region_held3 (fun wx => wx.cell? ⟨w.heap.size + 1 + 1, 2, none⟩ = some (.slice (some ⟨w.heap.size + 1, 0, none⟩) l.length l.length) ∧ wx.cell? ⟨wr.heap.size, 3, none⟩ = some (.int .i64 p)) (first | exact ⟨s2, o3⟩ | exact ⟨r2, r3⟩) (fail)
                go_wp2
                go_roundw
                case rel => exact ⟨k + 1, E + 1, max M (Ptr.depN l k), tp, _, _, by omega, by go_num, by go_num, by rw [hdn]; congr 1; omega, HA2, hE2, hM2, ⟨HSN.out⟩, hD2, hL2, hT2⟩
                case measure => simp [intOf]; omega
              · rename_i hq _
                have hz : Kept (p ≠ 0) := ⟨by have := hq; simp at this; omega⟩
                have hE2 : Kept (Ptr.elems l (k + 1) = E) := ⟨by have hq := hz.out; rw [Ptr.elems_at, HEL.out, HKK.out, HP.out, if_neg (fun e => by omega), Nat.add_zero]⟩
                go_region_held3 (fun wx => wx.cell? ⟨w.heap.size + 1 + 1, 2, none⟩ = some (.slice (some ⟨w.heap.size + 1, 0, none⟩) l.length l.length) ∧ wx.cell? ⟨wr.heap.size, 3, none⟩ = some (.int .i64 p)) (first | exact ⟨s2, o3⟩ | exact ⟨r2, r3⟩) (fail)
                go_wp2
                go_roundw
                case rel => exact ⟨k + 1, E, max M (Ptr.depN l k), tp, _, _, by omega, by go_num, by go_num, by rw [hdn]; congr 1; omega, HA2, hE2, hM2, ⟨HSN.out⟩, hD2, hL2, hT2⟩
                case measure => simp [intOf]; omega
            by_cases k3 : K = 3
            · subst k3
              have hdn : Ptr.depN l k = 0 + Ptr.depN l p := by rw [Ptr.depN_up HR1.out, HKK.out, HP.out, if_neg (by omega), if_neg (by omega), Int.toNat_natCast]
              have hE2 : Kept (Ptr.elems l (k + 1) = E) := ⟨by rw [Ptr.elems_at, HEL.out, HKK.out, HP.out, if_neg (fun e => by omega), Nat.add_zero]⟩
              have hM2 : Kept (Ptr.deepest l (k + 1) = M) := ⟨by rw [Ptr.deepest_at, HDP.out, HKK.out, if_neg (by omega)]⟩
              have hT2 : Kept (tp = Ptr.lastC l (-1) (k + 1)) := ⟨by rw [Ptr.lastC_step, HP.out, if_neg (fun e => by omega)]; exact HTP.out⟩
              have hL2 : Kept (Lasts l (k + 1) (fun j => if j = k then .int .i64 (-1) else fl j)) := ⟨lasts_next HFL.out (fun q hq => HR1.out q (by omega)) (.inr HKK.out)⟩
              have hD2 : Kept (Deps l (k + 1) (fun j => if j = k then .int .i64 (Ptr.depN l p) else fd j)) := ⟨deps_next HFD.out (by rw [if_pos rfl, hdn, Nat.zero_add]) (fun j hj => by rw [if_neg hj])⟩
              have hS4 := (HS3.out.later ((Below.refl _ _).drew)).setD k (.int .i64 (Ptr.depN l p))
              obtain ⟨u0, u1, u2, u3, u4⟩ := hS4.cells
              have v1 := hS4.deep.cell hlt
              rw [if_pos rfl] at v1
              have v2 := hS4.deep.frozen k
              have v3 := hS4.last.cell (i := p) (by omega)
              rw [if_neg (by omega), HFL.out p (by omega)] at v3
              have v4 := hS4.last.frozen p
              have m0 := set_far (w := w3.drew) (g := w.heap.size) (j := k) (u := .int .i64 (Ptr.depN l p)) hg1 n0
              have m3 := set_far (w := w3.drew) (g := w.heap.size) (j := k) (u := .int .i64 (Ptr.depN l p)) hg1 n3
              have HSN := Kept.mk hS4
              clear hS4
              go_wp2_with (fail)
              go_region_held3 (fun wx => wx.cell? ⟨w.heap.size + 1 + 1, 1, none⟩ = some (.slice (some ⟨w.heap.size, 0, none⟩) l.length l.length) ∧ wx.cell? ⟨w.heap.size, p, none⟩ = some (.int .i64 (Ptr.depN l p)) ∧ wx.cell? ⟨wr.heap.size, 3, none⟩ = some (.int .i64 p)) (first | exact ⟨x1, y1, n3⟩ | exact ⟨u1, y9, m3⟩) (fail)
              go_wp2_with (fail)
              go_roundw
              case rel => exact ⟨k + 1, E, M, tp, _, _, by omega, by go_num, by go_num, rfl, HA2, hE2, hM2, ⟨HSN.out⟩, hD2, hL2, hT2⟩
              case measure => simp [intOf]; omega
            have e2 : ((K : Int) == 2) = false := by simp; omega
            have e3 : ((K : Int) == 3) = false := by simp; omega
            have hdn : Ptr.depN l k = 0 + Ptr.depN l p := by rw [Ptr.depN_up HR1.out, HKK.out, HP.out, if_neg (by omega), if_neg (by omega), Int.toNat_natCast]
            have hE2 : Kept (Ptr.elems l (k + 1) = E) := ⟨by rw [Ptr.elems_at, HEL.out, HKK.out, HP.out, if_neg (fun e => by omega), Nat.add_zero]⟩
            have hM2 : Kept (Ptr.deepest l (k + 1) = M) := ⟨by rw [Ptr.deepest_at, HDP.out, HKK.out, if_neg (by omega)]⟩
            have hT2 : Kept (tp = Ptr.lastC l (-1) (k + 1)) := ⟨by rw [Ptr.lastC_step, HP.out, if_neg (fun e => by omega)]; exact HTP.out⟩
            have hL2 : Kept (Lasts l (k + 1) (fun j => if j = p then .int .i64 k else if j = k then .int .i64 (-1) else fl j)) := ⟨lasts_put HFL.out (fun q hq => HR1.out q (by omega)) HP.out (by rw [HKK.out]; omega)⟩
            have hD2 : Kept (Deps l (k + 1) (fun j => if j = k then .int .i64 (Ptr.depN l p) else fd j)) := ⟨deps_next HFD.out (by rw [if_pos rfl, hdn, Nat.zero_add]) (fun j hj => by rw [if_neg hj])⟩
            have hS4 := (HS3.out.later ((Below.refl _ _).drew)).setD k (.int .i64 (Ptr.depN l p))
            obtain ⟨u0, u1, u2, u3, u4⟩ := hS4.cells
            have v1 := hS4.deep.cell hlt
            rw [if_pos rfl] at v1
            have v2 := hS4.deep.frozen k
            have v3 := hS4.last.cell (i := p) (by omega)
            rw [if_neg (by omega), HFL.out p (by omega)] at v3
            have v4 := hS4.last.frozen p
            have m0 := set_far (w := w3.drew) (g := w.heap.size) (j := k) (u := .int .i64 (Ptr.depN l p)) hg1 n0
            have m3 := set_far (w := w3.drew) (g := w.heap.size) (j := k) (u := .int .i64 (Ptr.depN l p)) hg1 n3
            have hS6 := (hS4.later ((Below.refl _ _).drew)).setL p (.int .i64 k)
            have r2 := hS6.cells.2.2.1
            have r3 := set_far (w := (w3.drew.setCell ⟨w.heap.size, k, none⟩ (.int .i64 (Ptr.depN l p))).drew) (g := w.heap.size + 1) (j := p) (u := .int .i64 k) hg2 m3
            have HSN := Kept.mk hS6
            clear hS6
            clear hS4
            go_wp2_with (fail)
            go_region_held3 (fun wx => wx.cell? ⟨w.heap.size + 1 + 1, 1, none⟩ = some (.slice (some ⟨w.heap.size, 0, none⟩) l.length l.length) ∧ wx.cell? ⟨w.heap.size, p, none⟩ = some (.int .i64 (Ptr.depN l p)) ∧ wx.cell? ⟨wr.heap.size, 3, none⟩ = some (.int .i64 p)) (first | exact ⟨x1, y1, n3⟩ | exact ⟨u1, y9, m3⟩) (fail)
            go_wp2_with (fail)
            go_region_held3 (fun wx => wx.cell? ⟨w.heap.size + 1 + 1, 2, none⟩ = some (.slice (some ⟨w.heap.size + 1, 0, none⟩) l.length l.length) ∧ wx.cell? ⟨wr.heap.size, 3, none⟩ = some (.int .i64 p)) (first | exact ⟨u2, m3⟩ | exact ⟨r2, r3⟩) (fail)
            go_wp2
            go_roundw
            case rel => exact ⟨k + 1, E, M, tp, _, _, by omega, by go_num, by go_num, rfl, HA2, hE2, hM2, ⟨HSN.out⟩, hD2, hL2, hT2⟩
            case measure => simp [intOf]; omega
      · obtain rfl : k = l.length := by omega
        have hX : Kept (Ptr.chk l false = if 60 < M then 131 else 0) := ⟨by rw [Ptr.chk_yes HBG.out HA.out, HEL.out, HDP.out]; simp⟩
        by_cases h60 : 60 < M
        · rw [if_pos h60] at hX
          have q60 : (60 : Int) < (M : Int) := by omega
          clear h60
          go_wp2
          go_ret
          exact ⟨ret_i64 (by rw [hX.out]; rfl), HS.out.below⟩
        · rw [if_neg h60] at hX
          have q60 : ¬ (60 : Int) < (M : Int) := by omega
          clear h60
          go_wp2
          go_ret
          exact ⟨ret_i64 (by rw [hX.out]; rfl), HS.out.below⟩
  · clear hmk
    go_wp2
    go_loopw [6, 7, 24] (fun e d i wx => ∃ (k E M : Nat) (tp : Int) (fd fl : Nat → Value), k ≤ l.length ∧ i = .int .i64 k ∧ e = .int .i64 E ∧ d = .int .i64 M ∧ Kept (Ptr.pallB l false k = true) ∧ Kept (Ptr.elems l k = E) ∧ Kept (Ptr.deepest l k = M) ∧ Kept (St w (w.heap.size + 1) (w.heap.size) (w.heap.size + 1 + 1) l.length (.slice A l.length c) tp fd fl wx) ∧ Kept (Deps l k fd) ∧ Kept (Lasts l k fl) ∧ Kept (tp = Ptr.lastC l (-1) k)) (fun _ _ i _ => l.length - (intOf i).toNat)
    case atStart => exact ⟨0, 0, 0, -1, fun _ => .int .i64 0, fun _ => .int .i64 0, by omega, rfl, rfl, rfl, ⟨rfl⟩, ⟨rfl⟩, ⟨rfl⟩, ⟨st_made2 A l c w⟩, ⟨deps_zero l⟩, ⟨lasts_zero l _⟩, ⟨rfl⟩⟩
    case round =>
      obtain ⟨k, E, M, tp, fd, fl, hk, rfl, rfl, rfl, HA, HEL, HDP, HS, HFD, HFL, HTP⟩ := hrel
      have i0 : (0 : Int) ≤ (k : Int) := by omega
      by_cases hlt : k < l.length
      · have i1 : (k : Int) < (l.length : Int) := by omega
        have hEk : E ≤ k := by rw [← HEL.out]; exact Ptr.elems_le' l k
        have hS := HS.out
        have hrl := HRD.out.below hS.below
        obtain ⟨b, off, rfl, c0, c1, c2, c3⟩ := hrl.at_ hlt
        obtain ⟨x0, x1, x2, x3, x4⟩ := hS.cells
        have y2 : ∀ o, (wr.alloc o).cell? ⟨w.heap.size + 1 + 1, 2, none⟩ = _ := fun o => cell_keep (box_below wr o) x2
        have y4 : ∀ o, (wr.alloc o).cell? ⟨w.heap.size, k, none⟩ = some (fl k) := fun o => cell_keep (box_below wr o) (hS.last.cell hlt)
        have y5 : ∀ o, (wr.alloc o).frozen? ⟨w.heap.size, k, none⟩ = false := fun o => ((hS.alloc o).last.frozen k)
        simp only at c0 c1 c2 c3
        obtain ⟨X, hX⟩ : ∃ X : ByteArray, X = ⟨(Ptr.nam l k).toArray⟩ := ⟨_, rfl⟩
        obtain ⟨V, hV⟩ : ∃ V : ByteArray, V = ⟨(Ptr.val l k).toArray⟩ := ⟨_, rfl⟩
        have hXl : X.toList = Ptr.nam l k := by rw [hX, ByteArray.toList_eq]
        have hVl : V.toList = Ptr.val l k := by rw [hV, ByteArray.toList_eq]
        rw [← hX] at c1
        rw [← hV] at c2
        have HXL := Kept.mk hXl; have HVL := Kept.mk hVl
        obtain ⟨W, hW⟩ : ∃ W, W = (wr.alloc (.cells #[.int .u8 (Ptr.kin l k), .string X, .string V, .int .i64 (Ptr.par l k)] 32)).setCell ⟨w.heap.size, k, none⟩ (.int .i64 (-1)) := ⟨_, rfl⟩
        have hSW : St w (w.heap.size + 1) (w.heap.size) (w.heap.size + 1 + 1) l.length (.slice (some ⟨b, off, none⟩) l.length c) tp fd (fun j => if j = k then .int .i64 (-1) else fl j) W := by rw [hW]; exact (hS.alloc _).setL k (.int .i64 (-1))
        have hgl : w.heap.size ≠ wr.heap.size := by have := hS.lt; omega
        have n0 : W.cell? ⟨wr.heap.size, 0, none⟩ = some (.int .u8 (Ptr.kin l k)) := by rw [hW]; exact far_box _ _ _ _ _ _ (fun e => hgl e.symm) rfl
        have n1 : W.cell? ⟨wr.heap.size, 1, none⟩ = some (.string X) := by rw [hW]; exact far_box _ _ _ _ _ _ (fun e => hgl e.symm) rfl
        have n2 : W.cell? ⟨wr.heap.size, 2, none⟩ = some (.string V) := by rw [hW]; exact far_box _ _ _ _ _ _ (fun e => hgl e.symm) rfl
        have n3 : W.cell? ⟨wr.heap.size, 3, none⟩ = some (.int .i64 (Ptr.par l k)) := by rw [hW]; exact far_box _ _ _ _ _ _ (fun e => hgl e.symm) rfl
        have hRW := HRD.out.below hSW.below
        have hRk := Ptr.allB_rng (Ptr.pallB_allB HA.out)
        have HWW := Kept.mk hW; have HSW := Kept.mk hSW; have HRW := Kept.mk hRW
        have HN0 := Kept.mk n0; have HN1 := Kept.mk n1; have HN2 := Kept.mk n2; have HN3 := Kept.mk n3
        have cO := open_any (w.heap.size + 1 + 1) (some ⟨b, off, none⟩) l c k W hSW.cells.1 hRW hlt hRk hl
        have cF := fun (ho : Ptr.openB l k = true) (hp : 0 ≤ Ptr.par l k ∨ tp = Ptr.lastC l (-1) k) => fits_any (w.heap.size + 1 + 1) (w.heap.size) tp (some ⟨b, off, none⟩) l c k W hSW.cells.1 hSW.cells.2.2.1 hSW.cells.2.2.2.1 (before_ok hSW HFL.out hlt hRk ho hp) hRW hlt (Ptr.open_range hRk ho) hl (HF.out k).1 (HF.out k).2.1 (HEV.out.below hSW.below) (HF.out k).2.2
        have hbad : Ptr.pgood l false k = false → Kept (Ptr.chk l false = 4) := fun e => ⟨Ptr.chk_no HBG.out (Ptr.pallB_no e _ hlt)⟩
        have HBAD := Kept.mk hbad
        have hgood : Ptr.pgood l false k = true → Kept (Ptr.pallB l false (k + 1) = true) := fun e => ⟨by unfold Ptr.pallB; rw [HA.out, e]; rfl⟩
        have HGOOD := Kept.mk hgood
        have hRO := fun (ho : Ptr.openB l k = true) => hRk.succ ho
        have HRO := Kept.mk hRO; have hRk2 := Kept.mk hRk
        have hPG : Ptr.pgood l false k = (Ptr.openB l k && (if (false && k == 0) = true then Ptr.headB l k else !(false && decide (Ptr.par l k < 0)) && Ptr.fitsB l k)) := rfl
        have CF := Kept.mk cF
        have HPG := Kept.mk hPG
        have HK : Kept (∃ K : Nat, K = Ptr.kin l k) := ⟨_, rfl⟩
        have HLT := Kept.mk hlt
        clear hS hrl x0 x1 x2 x3 x4 hX hV hXl hVl hSW hgl hRW hRk cF hbad hgood hRO hPG hW n0 n1 n2 n3
        generalize hoo : Ptr.openB l k = O at cO
        have HOO := Kept.mk hoo
        clear hoo
        go_wp2_with (fail)
        rw [← HWW.out]
        refine cO.mono ?_; rintro e w' ⟨rfl, rfl⟩
        clear y2 y4 y5 c0 c1 c2 c3 cO
        cases O with
        | false =>
          have hX := HBAD.out (by rw [HPG.out, HOO.out]; rfl)
          go_wp2
          go_ret
          exact ⟨ret_i64 (by rw [hX.out]; rfl), HSW.out.below⟩
        | true =>
          have n0 := HN0.out; have n1 := HN1.out; have n2 := HN2.out; have n3 := HN3.out
          have cF := CF.out HOO.out (.inr HTP.out)
          have hPG2 : Ptr.pgood l false k = Ptr.fitsB l k := by rw [HPG.out, HOO.out]; rfl
          generalize Ptr.fitsB l k = B at cF hPG2
          have HPG2 := Kept.mk hPG2
          have CF2 := Kept.mk cF
          have HR1 := Kept.mk (HRO.out HOO.out)
          clear hPG2 cF
          go_wp2_with (fail)
          refine CF2.out.mono ?_; rintro e w3 ⟨rfl, hb3⟩
          have n0 := cell_keep hb3 HN0.out; have n1 := cell_keep hb3 HN1.out; have n2 := cell_keep hb3 HN2.out; have n3 := cell_keep hb3 HN3.out
          have hS3 := HSW.out.later hb3
          obtain ⟨x0, x1, x2, x3, x4⟩ := hS3.cells
          have HS3 := Kept.mk hS3
          have HB3 := Kept.mk hb3
          have HSZ : Kept (wr.heap.size < w3.heap.size) := ⟨cell_lt n0⟩
          clear hS3 hb3
          cases B with
          | false =>
            have hX := HBAD.out HPG2.out
            go_wp2
            go_ret
            exact ⟨ret_i64 (by rw [hX.out]; rfl), HS3.out.below⟩
          | true =>
            have HA2 := HGOOD.out HPG2.out
            obtain ⟨K, hK⟩ : ∃ K, Ptr.kin l k = K := ⟨_, rfl⟩
            obtain ⟨P, hP⟩ : ∃ P, Ptr.par l k = P := ⟨_, rfl⟩
            rw [hK] at n0
            rw [hP] at n3
            have hpr := HR1.out k (by omega)
            rw [hP] at hpr
            have hg1 : wr.heap.size ≠ w.heap.size + 1 := by have := HS.out.lt; omega
            have hg2 : wr.heap.size ≠ w.heap.size := by have := HS.out.lt; omega
            have hg3 : wr.heap.size ≠ w.heap.size + 1 + 1 := by have := HS.out.lt; omega
            have HP := Kept.mk hP; have HKK := Kept.mk hK
            clear hP hK
            by_cases hp : P < 0
            · have y3 := HS3.out.deep.cell hlt
              rw [HFD.out.2 k (Nat.le_refl _)] at y3
              have y4 := HS3.out.deep.frozen k
              by_cases k2 : K = 2
              · subst k2
                have hdn : Ptr.depN l k = 1 := by rw [Ptr.depN_up HR1.out, HKK.out, HP.out, if_pos rfl, if_pos hp]
                have hE2 : Kept (Ptr.elems l (k + 1) = E) := ⟨by rw [Ptr.elems_at, HEL.out, HKK.out, HP.out, if_neg (fun e => by omega), Nat.add_zero]⟩
                have hM2 : Kept (Ptr.deepest l (k + 1) = max M (Ptr.depN l k)) := ⟨by rw [Ptr.deepest_at, HDP.out, HKK.out, if_pos rfl]⟩
                have hT2 : Kept ((k : Int) = Ptr.lastC l (-1) (k + 1)) := ⟨by rw [Ptr.lastC_step, if_pos ⟨by rw [HP.out]; omega, by rw [HKK.out]; omega⟩]⟩
                have hL2 : Kept (Lasts l (k + 1) (fun j => if j = k then .int .i64 (-1) else fl j)) := ⟨lasts_next HFL.out (fun q hq => HR1.out q (by omega)) (.inl (by rw [HP.out]; exact hp))⟩
                have hD2 : Kept (Deps l (k + 1) (fun j => if j = k then .int .i64 1 else fd j)) := ⟨deps_next HFD.out (by rw [if_pos rfl, hdn]; rfl) (fun j hj => by rw [if_neg hj])⟩
                have pe : (P == 0) = false := by simp; omega
                have hS4 := HS3.out.setD k (.int .i64 1)
                obtain ⟨u0, u1, u2, u3, u4⟩ := hS4.cells
                have v1 := hS4.deep.cell hlt
                rw [if_pos rfl] at v1
                have m0 := set_far (w := w3) (g := w.heap.size + 1) (j := k) (u := .int .i64 1) hg1 n0
                have m3 := set_far (w := w3) (g := w.heap.size + 1) (j := k) (u := .int .i64 1) hg1 n3
                have HSN := Kept.mk (hS4.setT k)
                clear hS4
                go_wp2
                go_roundw
                case rel => exact ⟨k + 1, E, max M (Ptr.depN l k), k, _, _, by omega, by go_num, by go_num, by rw [hdn]; congr 1; omega, HA2, hE2, hM2, ⟨HSN.out⟩, hD2, hL2, hT2⟩
                case measure => simp [intOf]; omega
              by_cases k3 : K = 3
              · subst k3
                have hdn : Ptr.depN l k = 0 := by rw [Ptr.depN_up HR1.out, HKK.out, HP.out, if_neg (by omega), if_pos hp]
                have hE2 : Kept (Ptr.elems l (k + 1) = E) := ⟨by rw [Ptr.elems_at, HEL.out, HKK.out, HP.out, if_neg (fun e => by omega), Nat.add_zero]⟩
                have hM2 : Kept (Ptr.deepest l (k + 1) = M) := ⟨by rw [Ptr.deepest_at, HDP.out, HKK.out, if_neg (by omega)]⟩
                have hT2 : Kept (tp = Ptr.lastC l (-1) (k + 1)) := ⟨by rw [Ptr.lastC_step, if_neg (fun e => e.2 HKK.out)]; exact HTP.out⟩
                have hL2 : Kept (Lasts l (k + 1) (fun j => if j = k then .int .i64 (-1) else fl j)) := ⟨lasts_next HFL.out (fun q hq => HR1.out q (by omega)) (.inl (by rw [HP.out]; exact hp))⟩
                have hD2 : Kept (Deps l (k + 1) fd) := ⟨deps_next HFD.out (by rw [hdn, HFD.out.2 k (Nat.le_refl _)]; rfl) (fun j hj => rfl)⟩
                have HSN := HS3
                go_wp2
                go_roundw
                case rel => exact ⟨k + 1, E, M, tp, _, _, by omega, by go_num, by go_num, rfl, HA2, hE2, hM2, ⟨HSN.out⟩, hD2, hL2, hT2⟩
                case measure => simp [intOf]; omega
              have e2 : ((K : Int) == 2) = false := by simp; omega
              have e3 : ((K : Int) == 3) = false := by simp; omega
              have hdn : Ptr.depN l k = 0 := by rw [Ptr.depN_up HR1.out, HKK.out, HP.out, if_neg (by omega), if_pos hp]
              have hE2 : Kept (Ptr.elems l (k + 1) = E) := ⟨by rw [Ptr.elems_at, HEL.out, HKK.out, HP.out, if_neg (fun e => by omega), Nat.add_zero]⟩
              have hM2 : Kept (Ptr.deepest l (k + 1) = M) := ⟨by rw [Ptr.deepest_at, HDP.out, HKK.out, if_neg (by omega)]⟩
              have hT2 : Kept ((k : Int) = Ptr.lastC l (-1) (k + 1)) := ⟨by rw [Ptr.lastC_step, if_pos ⟨by rw [HP.out]; omega, by rw [HKK.out]; omega⟩]⟩
              have hL2 : Kept (Lasts l (k + 1) (fun j => if j = k then .int .i64 (-1) else fl j)) := ⟨lasts_next HFL.out (fun q hq => HR1.out q (by omega)) (.inl (by rw [HP.out]; exact hp))⟩
              have hD2 : Kept (Deps l (k + 1) fd) := ⟨deps_next HFD.out (by rw [hdn, HFD.out.2 k (Nat.le_refl _)]; rfl) (fun j hj => rfl)⟩
              have HSN := Kept.mk (HS3.out.setT k)
              go_wp2
              go_roundw
              case rel => exact ⟨k + 1, E, M, k, _, _, by omega, by go_num, by go_num, rfl, HA2, hE2, hM2, ⟨HSN.out⟩, hD2, hL2, hT2⟩
              case measure => simp [intOf]; omega
            obtain ⟨p, rfl⟩ : ∃ p : Nat, P = p := ⟨P.toNat, by omega⟩
            have p0 : (0 : Int) ≤ (p : Int) := by omega
            have p1 : (p : Int) < (l.length : Int) := by omega
            have p2 : ¬ (p : Int) < 0 := by omega
            have hpk : p < k := by omega
            have y1 := HS3.out.deep.cell (i := p) (by omega)
            rw [HFD.out.1 p hpk] at y1
            have y3 := HS3.out.deep.cell hlt
            rw [HFD.out.2 k (Nat.le_refl _)] at y3
            have y4 := HS3.out.deep.frozen k
            have hdl := Ptr.depN_le l p
            have y6 := HS3.out.last.cell (i := p) (by omega)
            rw [if_neg (by omega), HFL.out p hpk] at y6
            have y7 := HS3.out.last.frozen p
            have y9 : (w3.drew.setCell ⟨w.heap.size + 1, k, none⟩ (.int .i64 (Ptr.depN l p))).cell? ⟨w.heap.size + 1, p, none⟩ = some (.int .i64 (Ptr.depN l p)) := by
              have h := ((HS3.out.later ((Below.refl _ _).drew)).setD k (.int .i64 (Ptr.depN l p))).deep.cell (i := p) (by omega)
              rw [if_neg (by omega), HFD.out.1 p hpk] at h
              exact h
            by_cases k2 : K = 2
            · subst k2
              have hdn : Ptr.depN l k = 1 + Ptr.depN l p := by rw [Ptr.depN_up HR1.out, HKK.out, HP.out, if_pos rfl, if_neg (by omega), Int.toNat_natCast]
              have hM2 : Kept (Ptr.deepest l (k + 1) = max M (Ptr.depN l k)) := ⟨by rw [Ptr.deepest_at, HDP.out, HKK.out, if_pos rfl]⟩
              have hT2 : Kept (tp = Ptr.lastC l (-1) (k + 1)) := ⟨by rw [Ptr.lastC_step, HP.out, if_neg (fun e => by omega)]; exact HTP.out⟩
              have hL2 : Kept (Lasts l (k + 1) (fun j => if j = p then .int .i64 k else if j = k then .int .i64 (-1) else fl j)) := ⟨lasts_put HFL.out (fun q hq => HR1.out q (by omega)) HP.out (by rw [HKK.out]; omega)⟩
              have hD2 : Kept (Deps l (k + 1) (fun j => if j = k then .int .i64 ((Ptr.depN l p : Int) + 1) else if j = k then .int .i64 (Ptr.depN l p) else fd j)) := ⟨deps_next HFD.out (by rw [if_pos rfl, hdn]; congr 1; omega) (fun j hj => by rw [if_neg hj, if_neg hj])⟩
              have hS4 := (HS3.out.later ((Below.refl _ _).drew)).setD k (.int .i64 (Ptr.depN l p))
              obtain ⟨u0, u1, u2, u3, u4⟩ := hS4.cells
              have v1 := hS4.deep.cell hlt
              rw [if_pos rfl] at v1
              have v2 := hS4.deep.frozen k
              have v3 := hS4.last.cell (i := p) (by omega)
              rw [if_neg (by omega), HFL.out p (by omega)] at v3
              have v4 := hS4.last.frozen p
              have m0 := set_far (w := w3.drew) (g := w.heap.size + 1) (j := k) (u := .int .i64 (Ptr.depN l p)) hg1 n0
              have m3 := set_far (w := w3.drew) (g := w.heap.size + 1) (j := k) (u := .int .i64 (Ptr.depN l p)) hg1 n3
              have hS5 := hS4.setD k (.int .i64 ((Ptr.depN l p : Int) + 1))
              obtain ⟨s0, s1, s2, s3, s4⟩ := hS5.cells
              have z1 := hS5.deep.cell hlt
              rw [if_pos rfl] at z1
              have z3 := hS5.last.cell (i := p) (by omega)
              rw [if_neg (by omega), HFL.out p (by omega)] at z3
              have z4 := hS5.last.frozen p
              have o0 := set_far (w := (w3.drew.setCell ⟨w.heap.size + 1, k, none⟩ (.int .i64 (Ptr.depN l p)))) (g := w.heap.size + 1) (j := k) (u := .int .i64 ((Ptr.depN l p : Int) + 1)) hg1 m0
              have o3 := set_far (w := (w3.drew.setCell ⟨w.heap.size + 1, k, none⟩ (.int .i64 (Ptr.depN l p)))) (g := w.heap.size + 1) (j := k) (u := .int .i64 ((Ptr.depN l p : Int) + 1)) hg1 m3
              have hS6 := (hS5.later ((Below.refl _ _).drew)).setL p (.int .i64 k)
              have r2 := hS6.cells.2.2.1
              have r3 := set_far (w := ((w3.drew.setCell ⟨w.heap.size + 1, k, none⟩ (.int .i64 (Ptr.depN l p))).setCell ⟨w.heap.size + 1, k, none⟩ (.int .i64 ((Ptr.depN l p : Int) + 1))).drew) (g := w.heap.size) (j := p) (u := .int .i64 k) hg2 o3
              have HSN := Kept.mk hS6
              clear hS6
              clear hS4 hS5
              go_wp2_with (fail)
              go_region_held3 (fun wx => wx.cell? ⟨w.heap.size + 1 + 1, 1, none⟩ = some (.slice (some ⟨w.heap.size + 1, 0, none⟩) l.length l.length) ∧ wx.cell? ⟨w.heap.size + 1, p, none⟩ = some (.int .i64 (Ptr.depN l p)) ∧ wx.cell? ⟨wr.heap.size, 3, none⟩ = some (.int .i64 p)) (first | exact ⟨x1, y1, n3⟩ | exact ⟨u1, y9, m3⟩) (fail)
              go_wp2_with (fail)
              · rename_i hq _
                have hz : Kept (p = 0) := ⟨by have := hq; simp at this; omega⟩
                have hE2 : Kept (Ptr.elems l (k + 1) = E + 1) := ⟨by have hq := hz.out; rw [Ptr.elems_at, HEL.out, HKK.out, HP.out, if_pos ⟨rfl, by omega⟩]⟩
                go_region_held3 (fun wx => wx.cell? ⟨w.heap.size + 1 + 1, 2, none⟩ = some (.slice (some ⟨w.heap.size, 0, none⟩) l.length l.length) ∧ wx.cell? ⟨wr.heap.size, 3, none⟩ = some (.int .i64 p)) (first | exact ⟨s2, o3⟩ | exact ⟨r2, r3⟩) (fail)
                go_wp2
                go_roundw
                case rel => exact ⟨k + 1, E + 1, max M (Ptr.depN l k), tp, _, _, by omega, by go_num, by go_num, by rw [hdn]; congr 1; omega, HA2, hE2, hM2, ⟨HSN.out⟩, hD2, hL2, hT2⟩
                case measure => simp [intOf]; omega
              · rename_i hq _
                have hz : Kept (p ≠ 0) := ⟨by have := hq; simp at this; omega⟩
                have hE2 : Kept (Ptr.elems l (k + 1) = E) := ⟨by have hq := hz.out; rw [Ptr.elems_at, HEL.out, HKK.out, HP.out, if_neg (fun e => by omega), Nat.add_zero]⟩
                go_region_held3 (fun wx => wx.cell? ⟨w.heap.size + 1 + 1, 2, none⟩ = some (.slice (some ⟨w.heap.size, 0, none⟩) l.length l.length) ∧ wx.cell? ⟨wr.heap.size, 3, none⟩ = some (.int .i64 p)) (first | exact ⟨s2, o3⟩ | exact ⟨r2, r3⟩) (fail)
                go_wp2
                go_roundw
                case rel => exact ⟨k + 1, E, max M (Ptr.depN l k), tp, _, _, by omega, by go_num, by go_num, by rw [hdn]; congr 1; omega, HA2, hE2, hM2, ⟨HSN.out⟩, hD2, hL2, hT2⟩
                case measure => simp [intOf]; omega
            by_cases k3 : K = 3
            · subst k3
              have hdn : Ptr.depN l k = 0 + Ptr.depN l p := by rw [Ptr.depN_up HR1.out, HKK.out, HP.out, if_neg (by omega), if_neg (by omega), Int.toNat_natCast]
              have hE2 : Kept (Ptr.elems l (k + 1) = E) := ⟨by rw [Ptr.elems_at, HEL.out, HKK.out, HP.out, if_neg (fun e => by omega), Nat.add_zero]⟩
              have hM2 : Kept (Ptr.deepest l (k + 1) = M) := ⟨by rw [Ptr.deepest_at, HDP.out, HKK.out, if_neg (by omega)]⟩
              have hT2 : Kept (tp = Ptr.lastC l (-1) (k + 1)) := ⟨by rw [Ptr.lastC_step, HP.out, if_neg (fun e => by omega)]; exact HTP.out⟩
              have hL2 : Kept (Lasts l (k + 1) (fun j => if j = k then .int .i64 (-1) else fl j)) := ⟨lasts_next HFL.out (fun q hq => HR1.out q (by omega)) (.inr HKK.out)⟩
              have hD2 : Kept (Deps l (k + 1) (fun j => if j = k then .int .i64 (Ptr.depN l p) else fd j)) := ⟨deps_next HFD.out (by rw [if_pos rfl, hdn, Nat.zero_add]) (fun j hj => by rw [if_neg hj])⟩
              have hS4 := (HS3.out.later ((Below.refl _ _).drew)).setD k (.int .i64 (Ptr.depN l p))
              obtain ⟨u0, u1, u2, u3, u4⟩ := hS4.cells
              have v1 := hS4.deep.cell hlt
              rw [if_pos rfl] at v1
              have v2 := hS4.deep.frozen k
              have v3 := hS4.last.cell (i := p) (by omega)
              rw [if_neg (by omega), HFL.out p (by omega)] at v3
              have v4 := hS4.last.frozen p
              have m0 := set_far (w := w3.drew) (g := w.heap.size + 1) (j := k) (u := .int .i64 (Ptr.depN l p)) hg1 n0
              have m3 := set_far (w := w3.drew) (g := w.heap.size + 1) (j := k) (u := .int .i64 (Ptr.depN l p)) hg1 n3
              have HSN := Kept.mk hS4
              clear hS4
              go_wp2_with (fail)
              go_region_held3 (fun wx => wx.cell? ⟨w.heap.size + 1 + 1, 1, none⟩ = some (.slice (some ⟨w.heap.size + 1, 0, none⟩) l.length l.length) ∧ wx.cell? ⟨w.heap.size + 1, p, none⟩ = some (.int .i64 (Ptr.depN l p)) ∧ wx.cell? ⟨wr.heap.size, 3, none⟩ = some (.int .i64 p)) (first | exact ⟨x1, y1, n3⟩ | exact ⟨u1, y9, m3⟩) (fail)
              go_wp2_with (fail)
              go_roundw
              case rel => exact ⟨k + 1, E, M, tp, _, _, by omega, by go_num, by go_num, rfl, HA2, hE2, hM2, ⟨HSN.out⟩, hD2, hL2, hT2⟩
              case measure => simp [intOf]; omega
            have e2 : ((K : Int) == 2) = false := by simp; omega
            have e3 : ((K : Int) == 3) = false := by simp; omega
            have hdn : Ptr.depN l k = 0 + Ptr.depN l p := by rw [Ptr.depN_up HR1.out, HKK.out, HP.out, if_neg (by omega), if_neg (by omega), Int.toNat_natCast]
            have hE2 : Kept (Ptr.elems l (k + 1) = E) := ⟨by rw [Ptr.elems_at, HEL.out, HKK.out, HP.out, if_neg (fun e => by omega), Nat.add_zero]⟩
            have hM2 : Kept (Ptr.deepest l (k + 1) = M) := ⟨by rw [Ptr.deepest_at, HDP.out, HKK.out, if_neg (by omega)]⟩
            have hT2 : Kept (tp = Ptr.lastC l (-1) (k + 1)) := ⟨by rw [Ptr.lastC_step, HP.out, if_neg (fun e => by omega)]; exact HTP.out⟩
            have hL2 : Kept (Lasts l (k + 1) (fun j => if j = p then .int .i64 k else if j = k then .int .i64 (-1) else fl j)) := ⟨lasts_put HFL.out (fun q hq => HR1.out q (by omega)) HP.out (by rw [HKK.out]; omega)⟩
            have hD2 : Kept (Deps l (k + 1) (fun j => if j = k then .int .i64 (Ptr.depN l p) else fd j)) := ⟨deps_next HFD.out (by rw [if_pos rfl, hdn, Nat.zero_add]) (fun j hj => by rw [if_neg hj])⟩
            have hS4 := (HS3.out.later ((Below.refl _ _).drew)).setD k (.int .i64 (Ptr.depN l p))
            obtain ⟨u0, u1, u2, u3, u4⟩ := hS4.cells
            have v1 := hS4.deep.cell hlt
            rw [if_pos rfl] at v1
            have v2 := hS4.deep.frozen k
            have v3 := hS4.last.cell (i := p) (by omega)
            rw [if_neg (by omega), HFL.out p (by omega)] at v3
            have v4 := hS4.last.frozen p
            have m0 := set_far (w := w3.drew) (g := w.heap.size + 1) (j := k) (u := .int .i64 (Ptr.depN l p)) hg1 n0
            have m3 := set_far (w := w3.drew) (g := w.heap.size + 1) (j := k) (u := .int .i64 (Ptr.depN l p)) hg1 n3
            have hS6 := (hS4.later ((Below.refl _ _).drew)).setL p (.int .i64 k)
            have r2 := hS6.cells.2.2.1
            have r3 := set_far (w := (w3.drew.setCell ⟨w.heap.size + 1, k, none⟩ (.int .i64 (Ptr.depN l p))).drew) (g := w.heap.size) (j := p) (u := .int .i64 k) hg2 m3
            have HSN := Kept.mk hS6
            clear hS6
            clear hS4
            go_wp2_with (fail)
            go_region_held3 (fun wx => wx.cell? ⟨w.heap.size + 1 + 1, 1, none⟩ = some (.slice (some ⟨w.heap.size + 1, 0, none⟩) l.length l.length) ∧ wx.cell? ⟨w.heap.size + 1, p, none⟩ = some (.int .i64 (Ptr.depN l p)) ∧ wx.cell? ⟨wr.heap.size, 3, none⟩ = some (.int .i64 p)) (first | exact ⟨x1, y1, n3⟩ | exact ⟨u1, y9, m3⟩) (fail)
            go_wp2_with (fail)
            go_region_held3 (fun wx => wx.cell? ⟨w.heap.size + 1 + 1, 2, none⟩ = some (.slice (some ⟨w.heap.size, 0, none⟩) l.length l.length) ∧ wx.cell? ⟨wr.heap.size, 3, none⟩ = some (.int .i64 p)) (first | exact ⟨u2, m3⟩ | exact ⟨r2, r3⟩) (fail)
            go_wp2
            go_roundw
            case rel => exact ⟨k + 1, E, M, tp, _, _, by omega, by go_num, by go_num, rfl, HA2, hE2, hM2, ⟨HSN.out⟩, hD2, hL2, hT2⟩
            case measure => simp [intOf]; omega
      · obtain rfl : k = l.length := by omega
        have hX : Kept (Ptr.chk l false = if 60 < M then 131 else 0) := ⟨by rw [Ptr.chk_yes HBG.out HA.out, HEL.out, HDP.out]; simp⟩
        by_cases h60 : 60 < M
        · rw [if_pos h60] at hX
          have q60 : (60 : Int) < (M : Int) := by omega
          clear h60
          go_wp2
          go_ret
          exact ⟨ret_i64 (by rw [hX.out]; rfl), HS.out.below⟩
        · rw [if_neg h60] at hX
          have q60 : ¬ (60 : Int) < (M : Int) := by omega
          clear h60
          go_wp2
          go_ret
          exact ⟨ret_i64 (by rw [hX.out]; rfl), HS.out.below⟩
end Go.Proofs.YtemfmidhekdekaaGreatDoor.Wtr
namespace Go.Proofs.YtemfmidhekdekaaGreatDoor.Wtr
open Go Go.RowKit Go.Proofs.YtemfmidhekdekaaGreatDoor.Kb

set_option maxRecDepth 100000 in
set_option maxHeartbeats 16000000 in
theorem all_tree (A : Option Addr) (l : List Ptr.Nd) (c : Nat) (w : World) (hr : RdN w A l) (hl : l.length ≤ 100000) (hf : FitP l) (hE : TEnv w) :
    Calls Tryz.prog 27 #[.slice A l.length c, .bool true] w fun e w' => e = .returned (.int .i64 (Ptr.chk l true)) ∧ Below w.heap.size w w' := by
  have HRD := Kept.mk hr
  have HF := Kept.mk hf
  have HEV := Kept.mk hE
  clear hr hf hE
  by_cases hbig : 16384 < l.length
  · have hX : Kept (Ptr.chk l true = 3) := ⟨by unfold Ptr.chk; rw [if_pos hbig]⟩
    have b1 : (16384 : Int) < (l.length : Int) := by omega
    clear hbig
    go_enter Tryz.func27, Tryz.ntmps27
    go_wp2
    go_ret
    exact ⟨ret_i64 (by rw [hX.out]; rfl), Below.refl _ _⟩
  have b1 : ¬ (16384 : Int) < (l.length : Int) := by omega
  have HBG := Kept.mk hbig
  have hmk := fun kl kc wx => run_make_row' (P := Tryz.prog) 39 3 (.int .i64 0) 8 Tryz.underlying39 infoI rfl kl kc l.length (by omega) (by omega) wx
  have hbox := hmk
  clear hbox hbig
  go_enter Tryz.func27, Tryz.ntmps27
  go_wp2
  go_region
  · clear hmk
    go_wp2
    go_loopw [6, 7, 24] (fun e d i wx => ∃ (k E M : Nat) (tp : Int) (fd fl : Nat → Value), k ≤ l.length ∧ i = .int .i64 k ∧ e = .int .i64 E ∧ d = .int .i64 M ∧ Kept (Ptr.pallB l true k = true) ∧ Kept (Ptr.elems l k = E) ∧ Kept (Ptr.deepest l k = M) ∧ Kept (St w (w.heap.size) (w.heap.size + 1) (w.heap.size + 1 + 1) l.length (.slice A l.length c) tp fd fl wx) ∧ Kept (Deps l k fd) ∧ Kept (Lasts l k fl) ∧ Kept (True)) (fun _ _ i _ => l.length - (intOf i).toNat)
    case atStart => exact ⟨0, 0, 0, -1, fun _ => .int .i64 0, fun _ => .int .i64 0, by omega, rfl, rfl, rfl, ⟨rfl⟩, ⟨rfl⟩, ⟨rfl⟩, ⟨st_made1 A l c w⟩, ⟨deps_zero l⟩, ⟨lasts_zero l _⟩, ⟨trivial⟩⟩
    case round =>
      obtain ⟨k, E, M, tp, fd, fl, hk, rfl, rfl, rfl, HA, HEL, HDP, HS, HFD, HFL, HTP⟩ := hrel
      have i0 : (0 : Int) ≤ (k : Int) := by omega
      by_cases hlt : k < l.length
      · have i1 : (k : Int) < (l.length : Int) := by omega
        have hEk : E ≤ k := by rw [← HEL.out]; exact Ptr.elems_le' l k
        have hS := HS.out
        have hrl := HRD.out.below hS.below
        obtain ⟨b, off, rfl, c0, c1, c2, c3⟩ := hrl.at_ hlt
        obtain ⟨x0, x1, x2, x3, x4⟩ := hS.cells
        have y2 : ∀ o, (wr.alloc o).cell? ⟨w.heap.size + 1 + 1, 2, none⟩ = _ := fun o => cell_keep (box_below wr o) x2
        have y4 : ∀ o, (wr.alloc o).cell? ⟨w.heap.size + 1, k, none⟩ = some (fl k) := fun o => cell_keep (box_below wr o) (hS.last.cell hlt)
        have y5 : ∀ o, (wr.alloc o).frozen? ⟨w.heap.size + 1, k, none⟩ = false := fun o => ((hS.alloc o).last.frozen k)
        simp only at c0 c1 c2 c3
        obtain ⟨X, hX⟩ : ∃ X : ByteArray, X = ⟨(Ptr.nam l k).toArray⟩ := ⟨_, rfl⟩
        obtain ⟨V, hV⟩ : ∃ V : ByteArray, V = ⟨(Ptr.val l k).toArray⟩ := ⟨_, rfl⟩
        have hXl : X.toList = Ptr.nam l k := by rw [hX, ByteArray.toList_eq]
        have hVl : V.toList = Ptr.val l k := by rw [hV, ByteArray.toList_eq]
        rw [← hX] at c1
        rw [← hV] at c2
        have HXL := Kept.mk hXl; have HVL := Kept.mk hVl
        obtain ⟨W, hW⟩ : ∃ W, W = (wr.alloc (.cells #[.int .u8 (Ptr.kin l k), .string X, .string V, .int .i64 (Ptr.par l k)] 32)).setCell ⟨w.heap.size + 1, k, none⟩ (.int .i64 (-1)) := ⟨_, rfl⟩
        have hSW : St w (w.heap.size) (w.heap.size + 1) (w.heap.size + 1 + 1) l.length (.slice (some ⟨b, off, none⟩) l.length c) tp fd (fun j => if j = k then .int .i64 (-1) else fl j) W := by rw [hW]; exact (hS.alloc _).setL k (.int .i64 (-1))
        have hgl : w.heap.size + 1 ≠ wr.heap.size := by have := hS.lt; omega
        have n0 : W.cell? ⟨wr.heap.size, 0, none⟩ = some (.int .u8 (Ptr.kin l k)) := by rw [hW]; exact far_box _ _ _ _ _ _ (fun e => hgl e.symm) rfl
        have n1 : W.cell? ⟨wr.heap.size, 1, none⟩ = some (.string X) := by rw [hW]; exact far_box _ _ _ _ _ _ (fun e => hgl e.symm) rfl
        have n2 : W.cell? ⟨wr.heap.size, 2, none⟩ = some (.string V) := by rw [hW]; exact far_box _ _ _ _ _ _ (fun e => hgl e.symm) rfl
        have n3 : W.cell? ⟨wr.heap.size, 3, none⟩ = some (.int .i64 (Ptr.par l k)) := by rw [hW]; exact far_box _ _ _ _ _ _ (fun e => hgl e.symm) rfl
        have hRW := HRD.out.below hSW.below
        have hRk := Ptr.allB_rng (Ptr.pallB_allB HA.out)
        have HWW := Kept.mk hW; have HSW := Kept.mk hSW; have HRW := Kept.mk hRW
        have HN0 := Kept.mk n0; have HN1 := Kept.mk n1; have HN2 := Kept.mk n2; have HN3 := Kept.mk n3
        have cO := open_any (w.heap.size + 1 + 1) (some ⟨b, off, none⟩) l c k W hSW.cells.1 hRW hlt hRk hl
        have cF := fun (ho : Ptr.openB l k = true) (hp : 0 ≤ Ptr.par l k ∨ tp = Ptr.lastC l (-1) k) => fits_any (w.heap.size + 1 + 1) (w.heap.size + 1) tp (some ⟨b, off, none⟩) l c k W hSW.cells.1 hSW.cells.2.2.1 hSW.cells.2.2.2.1 (before_ok hSW HFL.out hlt hRk ho hp) hRW hlt (Ptr.open_range hRk ho) hl (HF.out k).1 (HF.out k).2.1 (HEV.out.below hSW.below) (HF.out k).2.2
        have hbad : Ptr.pgood l true k = false → Kept (Ptr.chk l true = 4) := fun e => ⟨Ptr.chk_no HBG.out (Ptr.pallB_no e _ hlt)⟩
        have HBAD := Kept.mk hbad
        have hgood : Ptr.pgood l true k = true → Kept (Ptr.pallB l true (k + 1) = true) := fun e => ⟨by unfold Ptr.pallB; rw [HA.out, e]; rfl⟩
        have HGOOD := Kept.mk hgood
        have hRO := fun (ho : Ptr.openB l k = true) => hRk.succ ho
        have HRO := Kept.mk hRO; have hRk2 := Kept.mk hRk
        have hPG : Ptr.pgood l true k = (Ptr.openB l k && (if (true && k == 0) = true then Ptr.headB l k else !(true && decide (Ptr.par l k < 0)) && Ptr.fitsB l k)) := rfl
        have CF := Kept.mk cF
        have HPG := Kept.mk hPG
        have HK : Kept (∃ K : Nat, K = Ptr.kin l k) := ⟨_, rfl⟩
        have HLT := Kept.mk hlt
        clear hS hrl x0 x1 x2 x3 x4 hX hV hXl hVl hSW hgl hRW hRk cF hbad hgood hRO hPG hW n0 n1 n2 n3
        generalize hoo : Ptr.openB l k = O at cO
        have HOO := Kept.mk hoo
        clear hoo
        go_wp2_with (fail)
        rw [← HWW.out]
        refine cO.mono ?_; rintro e w' ⟨rfl, rfl⟩
        clear y2 y4 y5 c0 c1 c2 c3 cO
        cases O with
        | false =>
          have hX := HBAD.out (by rw [HPG.out, HOO.out]; rfl)
          go_wp2
          go_ret
          exact ⟨ret_i64 (by rw [hX.out]; rfl), HSW.out.below⟩
        | true =>
          have n0 := HN0.out; have n1 := HN1.out; have n2 := HN2.out; have n3 := HN3.out
          by_cases hk0 : k = 0
          · have hz0 : ((k : Int) == 0) = true := by simp; omega
            have hr0 := Ptr.open_range hRk2.out HOO.out
            have hH : Ptr.pgood l true k = Ptr.headB l k := by rw [HPG.out, HOO.out, if_pos (by simpa using hk0)]; rfl
            unfold Ptr.headB at hH
            have HH := Kept.mk hH
            obtain ⟨K, hK⟩ : ∃ K, Ptr.kin l k = K := ⟨_, rfl⟩
            rw [hK] at n0
            have HKK := Kept.mk hK
            clear hH hK
            by_cases h1 : K = 1
            · subst h1
              by_cases hx : Ptr.nam l k = []
              · have xz : X.toList = [] := by rw [HXL.out, hx]
                by_cases hv : Ptr.val l k = []
                · have vz : V.toList = [] := by rw [HVL.out, hv]
                  have HA2 := HGOOD.out (by rw [HH.out, HKK.out, hx, hv]; rfl)
                  have HR1 := Kept.mk (HRO.out HOO.out)
                  have hdn : Ptr.depN l k = 0 := by rw [Ptr.depN_up HR1.out, HKK.out, if_neg (by omega), if_pos (by omega)]
                  have hE2 : Kept (Ptr.elems l (k + 1) = E) := ⟨by rw [Ptr.elems_at, HEL.out, HKK.out, if_neg (fun e => by omega), Nat.add_zero]⟩
                  have hM2 : Kept (Ptr.deepest l (k + 1) = M) := ⟨by rw [Ptr.deepest_at, HDP.out, HKK.out, if_neg (by omega)]⟩
                  have hL2 : Kept (Lasts l (k + 1) (fun j => if j = k then .int .i64 (-1) else fl j)) := ⟨lasts_next HFL.out (fun q hq => HR1.out q (by omega)) (.inl (by omega))⟩
                  have hD2 : Kept (Deps l (k + 1) fd) := ⟨deps_next HFD.out (by rw [hdn, HFD.out.2 k (Nat.le_refl _)]; rfl) (fun j hj => rfl)⟩
                  clear hx hv hk0
                  go_wp2
                  go_roundw
                  case rel => exact ⟨k + 1, E, M, tp, _, _, by omega, by go_num, by go_num, rfl, HA2, hE2, hM2, ⟨HSW.out⟩, hD2, hL2, ⟨trivial⟩⟩
                  case measure => simp [intOf]; omega
                · obtain ⟨vz, vz2⟩ : (V.toList == []) = false ∧ V.toList.isEmpty = false := by rw [HVL.out]; exact ⟨by simpa using hv, by simpa using hv⟩
                  have hX := HBAD.out (by rw [HH.out, decide_eq_false hv, Bool.and_false])
                  clear hx hv hk0
                  go_wp2
                  go_ret
                  exact ⟨ret_i64 (by rw [hX.out]; rfl), HSW.out.below⟩
              · obtain ⟨xz, xz2⟩ : (X.toList == []) = false ∧ X.toList.isEmpty = false := by rw [HXL.out]; exact ⟨by simpa using hx, by simpa using hx⟩
                have hX := HBAD.out (by rw [HH.out, decide_eq_false hx, Bool.and_false, Bool.false_and])
                clear hx hk0
                go_wp2
                go_ret
                exact ⟨ret_i64 (by rw [hX.out]; rfl), HSW.out.below⟩
            · have e1 : ((K : Int) != 1) = true := by simp; omega
              have hX := HBAD.out (by rw [HH.out, HKK.out, decide_eq_false h1]; rfl)
              clear hk0
              go_wp2
              go_ret
              exact ⟨ret_i64 (by rw [hX.out]; rfl), HSW.out.below⟩
          have hz0 : ((k : Int) == 0) = false := by simp; omega
          by_cases hp : Ptr.par l k < 0
          · have hX := HBAD.out (by rw [HPG.out, HOO.out, if_neg (by simpa using hk0), decide_eq_true hp]; rfl)
            go_wp2
            go_ret
            exact ⟨ret_i64 (by rw [hX.out]; rfl), HSW.out.below⟩
          have cF := CF.out HOO.out (.inl (by omega))
          obtain ⟨p', hp'⟩ : ∃ p' : Nat, Ptr.par l k = p' := ⟨(Ptr.par l k).toNat, by omega⟩
          rw [hp'] at n3
          have HN3 := Kept.mk n3
          have q2 : ¬ (p' : Int) < 0 := by omega
          have hPG2 : Ptr.pgood l true k = Ptr.fitsB l k := by rw [HPG.out, HOO.out, if_neg (by simpa using hk0), decide_eq_false hp]; rfl
          have HPP := Kept.mk hp'
          clear hp hp'
          generalize Ptr.fitsB l k = B at cF hPG2
          have HPG2 := Kept.mk hPG2
          have CF2 := Kept.mk cF
          have HR1 := Kept.mk (HRO.out HOO.out)
          clear hPG2 cF
          go_wp2_with (fail)
          refine CF2.out.mono ?_; rintro e w3 ⟨rfl, hb3⟩
          have n0 := cell_keep hb3 HN0.out; have n1 := cell_keep hb3 HN1.out; have n2 := cell_keep hb3 HN2.out; have n3 := cell_keep hb3 HN3.out
          have hS3 := HSW.out.later hb3
          obtain ⟨x0, x1, x2, x3, x4⟩ := hS3.cells
          have HS3 := Kept.mk hS3
          have HB3 := Kept.mk hb3
          have HSZ : Kept (wr.heap.size < w3.heap.size) := ⟨cell_lt n0⟩
          clear hS3 hb3
          cases B with
          | false =>
            have hX := HBAD.out HPG2.out
            go_wp2
            go_ret
            exact ⟨ret_i64 (by rw [hX.out]; rfl), HS3.out.below⟩
          | true =>
            have HA2 := HGOOD.out HPG2.out
            obtain ⟨K, hK⟩ : ∃ K, Ptr.kin l k = K := ⟨_, rfl⟩
            obtain ⟨P, hP⟩ : ∃ P, Ptr.par l k = P := ⟨_, rfl⟩
            rw [hK] at n0
            have hpr := HR1.out k (by omega)
            rw [hP] at hpr
            have hg1 : wr.heap.size ≠ w.heap.size := by have := HS.out.lt; omega
            have hg2 : wr.heap.size ≠ w.heap.size + 1 := by have := HS.out.lt; omega
            have hg3 : wr.heap.size ≠ w.heap.size + 1 + 1 := by have := HS.out.lt; omega
            have hp2 := HPP.out
            rw [hP] at hp2
            subst hp2
            have HP := Kept.mk hP; have HKK := Kept.mk hK
            clear hP hK
            obtain ⟨p, rfl⟩ : ∃ p : Nat, p = p' := ⟨p', rfl⟩
            have p0 : (0 : Int) ≤ (p : Int) := by omega
            have p1 : (p : Int) < (l.length : Int) := by omega
            have p2 : ¬ (p : Int) < 0 := by omega
            have hpk : p < k := by omega
            have y1 := HS3.out.deep.cell (i := p) (by omega)
            rw [HFD.out.1 p hpk] at y1
            have y3 := HS3.out.deep.cell hlt
            rw [HFD.out.2 k (Nat.le_refl _)] at y3
            have y4 := HS3.out.deep.frozen k
            have hdl := Ptr.depN_le l p
            have y6 := HS3.out.last.cell (i := p) (by omega)
            rw [if_neg (by omega), HFL.out p hpk] at y6
            have y7 := HS3.out.last.frozen p
            have y9 : (w3.drew.setCell ⟨w.heap.size, k, none⟩ (.int .i64 (Ptr.depN l p))).cell? ⟨w.heap.size, p, none⟩ = some (.int .i64 (Ptr.depN l p)) := by
              have h := ((HS3.out.later ((Below.refl _ _).drew)).setD k (.int .i64 (Ptr.depN l p))).deep.cell (i := p) (by omega)
              rw [if_neg (by omega), HFD.out.1 p hpk] at h
              exact h
            by_cases k2 : K = 2
            · subst k2
              have hdn : Ptr.depN l k = 1 + Ptr.depN l p := by rw [Ptr.depN_up HR1.out, HKK.out, HP.out, if_pos rfl, if_neg (by omega), Int.toNat_natCast]
              have hM2 : Kept (Ptr.deepest l (k + 1) = max M (Ptr.depN l k)) := ⟨by rw [Ptr.deepest_at, HDP.out, HKK.out, if_pos rfl]⟩
              have hT2 : Kept True := ⟨trivial⟩
              have hL2 : Kept (Lasts l (k + 1) (fun j => if j = p then .int .i64 k else if j = k then .int .i64 (-1) else fl j)) := ⟨lasts_put HFL.out (fun q hq => HR1.out q (by omega)) HP.out (by rw [HKK.out]; omega)⟩
              have hD2 : Kept (Deps l (k + 1) (fun j => if j = k then .int .i64 ((Ptr.depN l p : Int) + 1) else if j = k then .int .i64 (Ptr.depN l p) else fd j)) := ⟨deps_next HFD.out (by rw [if_pos rfl, hdn]; congr 1; omega) (fun j hj => by rw [if_neg hj, if_neg hj])⟩
              have hS4 := (HS3.out.later ((Below.refl _ _).drew)).setD k (.int .i64 (Ptr.depN l p))
              obtain ⟨u0, u1, u2, u3, u4⟩ := hS4.cells
              have v1 := hS4.deep.cell hlt
              rw [if_pos rfl] at v1
              have v2 := hS4.deep.frozen k
              have v3 := hS4.last.cell (i := p) (by omega)
              rw [if_neg (by omega), HFL.out p (by omega)] at v3
              have v4 := hS4.last.frozen p
              have m0 := set_far (w := w3.drew) (g := w.heap.size) (j := k) (u := .int .i64 (Ptr.depN l p)) hg1 n0
              have m3 := set_far (w := w3.drew) (g := w.heap.size) (j := k) (u := .int .i64 (Ptr.depN l p)) hg1 n3
              have hS5 := hS4.setD k (.int .i64 ((Ptr.depN l p : Int) + 1))
              obtain ⟨s0, s1, s2, s3, s4⟩ := hS5.cells
              have z1 := hS5.deep.cell hlt
              rw [if_pos rfl] at z1
              have z3 := hS5.last.cell (i := p) (by omega)
              rw [if_neg (by omega), HFL.out p (by omega)] at z3
              have z4 := hS5.last.frozen p
              have o0 := set_far (w := (w3.drew.setCell ⟨w.heap.size, k, none⟩ (.int .i64 (Ptr.depN l p)))) (g := w.heap.size) (j := k) (u := .int .i64 ((Ptr.depN l p : Int) + 1)) hg1 m0
              have o3 := set_far (w := (w3.drew.setCell ⟨w.heap.size, k, none⟩ (.int .i64 (Ptr.depN l p)))) (g := w.heap.size) (j := k) (u := .int .i64 ((Ptr.depN l p : Int) + 1)) hg1 m3
              have hS6 := (hS5.later ((Below.refl _ _).drew)).setL p (.int .i64 k)
              have r2 := hS6.cells.2.2.1
              have r3 := set_far (w := ((w3.drew.setCell ⟨w.heap.size, k, none⟩ (.int .i64 (Ptr.depN l p))).setCell ⟨w.heap.size, k, none⟩ (.int .i64 ((Ptr.depN l p : Int) + 1))).drew) (g := w.heap.size + 1) (j := p) (u := .int .i64 k) hg2 o3
              have HSN := Kept.mk hS6
              clear hS6
              clear hS4 hS5
              go_wp2_with (fail)
              go_region_held3 (fun wx => wx.cell? ⟨w.heap.size + 1 + 1, 1, none⟩ = some (.slice (some ⟨w.heap.size, 0, none⟩) l.length l.length) ∧ wx.cell? ⟨w.heap.size, p, none⟩ = some (.int .i64 (Ptr.depN l p)) ∧ wx.cell? ⟨wr.heap.size, 3, none⟩ = some (.int .i64 p)) (first | exact ⟨x1, y1, n3⟩ | exact ⟨u1, y9, m3⟩) (fail)
              go_wp2_with (fail)
              · rename_i hq _
                have hz : Kept (p = 0) := ⟨by have := hq; simp at this; omega⟩
                have hE2 : Kept (Ptr.elems l (k + 1) = E + 1) := ⟨by have hq := hz.out; rw [Ptr.elems_at, HEL.out, HKK.out, HP.out, if_pos ⟨rfl, by omega⟩]⟩
                go_region_held3 (fun wx => wx.cell? ⟨w.heap.size + 1 + 1, 2, none⟩ = some (.slice (some ⟨w.heap.size + 1, 0, none⟩) l.length l.length) ∧ wx.cell? ⟨wr.heap.size, 3, none⟩ = some (.int .i64 p)) (first | exact ⟨s2, o3⟩ | exact ⟨r2, r3⟩) (fail)
                go_wp2
                go_roundw
                case rel => exact ⟨k + 1, E + 1, max M (Ptr.depN l k), tp, _, _, by omega, by go_num, by go_num, by rw [hdn]; congr 1; omega, HA2, hE2, hM2, ⟨HSN.out⟩, hD2, hL2, hT2⟩
                case measure => simp [intOf]; omega
              · rename_i hq _
                have hz : Kept (p ≠ 0) := ⟨by have := hq; simp at this; omega⟩
                have hE2 : Kept (Ptr.elems l (k + 1) = E) := ⟨by have hq := hz.out; rw [Ptr.elems_at, HEL.out, HKK.out, HP.out, if_neg (fun e => by omega), Nat.add_zero]⟩
                go_region_held3 (fun wx => wx.cell? ⟨w.heap.size + 1 + 1, 2, none⟩ = some (.slice (some ⟨w.heap.size + 1, 0, none⟩) l.length l.length) ∧ wx.cell? ⟨wr.heap.size, 3, none⟩ = some (.int .i64 p)) (first | exact ⟨s2, o3⟩ | exact ⟨r2, r3⟩) (fail)
                go_wp2
                go_roundw
                case rel => exact ⟨k + 1, E, max M (Ptr.depN l k), tp, _, _, by omega, by go_num, by go_num, by rw [hdn]; congr 1; omega, HA2, hE2, hM2, ⟨HSN.out⟩, hD2, hL2, hT2⟩
                case measure => simp [intOf]; omega
            by_cases k3 : K = 3
            · subst k3
              have hdn : Ptr.depN l k = 0 + Ptr.depN l p := by rw [Ptr.depN_up HR1.out, HKK.out, HP.out, if_neg (by omega), if_neg (by omega), Int.toNat_natCast]
              have hE2 : Kept (Ptr.elems l (k + 1) = E) := ⟨by rw [Ptr.elems_at, HEL.out, HKK.out, HP.out, if_neg (fun e => by omega), Nat.add_zero]⟩
              have hM2 : Kept (Ptr.deepest l (k + 1) = M) := ⟨by rw [Ptr.deepest_at, HDP.out, HKK.out, if_neg (by omega)]⟩
              have hT2 : Kept True := ⟨trivial⟩
              have hL2 : Kept (Lasts l (k + 1) (fun j => if j = k then .int .i64 (-1) else fl j)) := ⟨lasts_next HFL.out (fun q hq => HR1.out q (by omega)) (.inr HKK.out)⟩
              have hD2 : Kept (Deps l (k + 1) (fun j => if j = k then .int .i64 (Ptr.depN l p) else fd j)) := ⟨deps_next HFD.out (by rw [if_pos rfl, hdn, Nat.zero_add]) (fun j hj => by rw [if_neg hj])⟩
              have hS4 := (HS3.out.later ((Below.refl _ _).drew)).setD k (.int .i64 (Ptr.depN l p))
              obtain ⟨u0, u1, u2, u3, u4⟩ := hS4.cells
              have v1 := hS4.deep.cell hlt
              rw [if_pos rfl] at v1
              have v2 := hS4.deep.frozen k
              have v3 := hS4.last.cell (i := p) (by omega)
              rw [if_neg (by omega), HFL.out p (by omega)] at v3
              have v4 := hS4.last.frozen p
              have m0 := set_far (w := w3.drew) (g := w.heap.size) (j := k) (u := .int .i64 (Ptr.depN l p)) hg1 n0
              have m3 := set_far (w := w3.drew) (g := w.heap.size) (j := k) (u := .int .i64 (Ptr.depN l p)) hg1 n3
              have HSN := Kept.mk hS4
              clear hS4
              go_wp2_with (fail)
              go_region_held3 (fun wx => wx.cell? ⟨w.heap.size + 1 + 1, 1, none⟩ = some (.slice (some ⟨w.heap.size, 0, none⟩) l.length l.length) ∧ wx.cell? ⟨w.heap.size, p, none⟩ = some (.int .i64 (Ptr.depN l p)) ∧ wx.cell? ⟨wr.heap.size, 3, none⟩ = some (.int .i64 p)) (first | exact ⟨x1, y1, n3⟩ | exact ⟨u1, y9, m3⟩) (fail)
              go_wp2_with (fail)
              go_roundw
              case rel => exact ⟨k + 1, E, M, tp, _, _, by omega, by go_num, by go_num, rfl, HA2, hE2, hM2, ⟨HSN.out⟩, hD2, hL2, hT2⟩
              case measure => simp [intOf]; omega
            have e2 : ((K : Int) == 2) = false := by simp; omega
            have e3 : ((K : Int) == 3) = false := by simp; omega
            have hdn : Ptr.depN l k = 0 + Ptr.depN l p := by rw [Ptr.depN_up HR1.out, HKK.out, HP.out, if_neg (by omega), if_neg (by omega), Int.toNat_natCast]
            have hE2 : Kept (Ptr.elems l (k + 1) = E) := ⟨by rw [Ptr.elems_at, HEL.out, HKK.out, HP.out, if_neg (fun e => by omega), Nat.add_zero]⟩
            have hM2 : Kept (Ptr.deepest l (k + 1) = M) := ⟨by rw [Ptr.deepest_at, HDP.out, HKK.out, if_neg (by omega)]⟩
            have hT2 : Kept True := ⟨trivial⟩
            have hL2 : Kept (Lasts l (k + 1) (fun j => if j = p then .int .i64 k else if j = k then .int .i64 (-1) else fl j)) := ⟨lasts_put HFL.out (fun q hq => HR1.out q (by omega)) HP.out (by rw [HKK.out]; omega)⟩
            have hD2 : Kept (Deps l (k + 1) (fun j => if j = k then .int .i64 (Ptr.depN l p) else fd j)) := ⟨deps_next HFD.out (by rw [if_pos rfl, hdn, Nat.zero_add]) (fun j hj => by rw [if_neg hj])⟩
            have hS4 := (HS3.out.later ((Below.refl _ _).drew)).setD k (.int .i64 (Ptr.depN l p))
            obtain ⟨u0, u1, u2, u3, u4⟩ := hS4.cells
            have v1 := hS4.deep.cell hlt
            rw [if_pos rfl] at v1
            have v2 := hS4.deep.frozen k
            have v3 := hS4.last.cell (i := p) (by omega)
            rw [if_neg (by omega), HFL.out p (by omega)] at v3
            have v4 := hS4.last.frozen p
            have m0 := set_far (w := w3.drew) (g := w.heap.size) (j := k) (u := .int .i64 (Ptr.depN l p)) hg1 n0
            have m3 := set_far (w := w3.drew) (g := w.heap.size) (j := k) (u := .int .i64 (Ptr.depN l p)) hg1 n3
            have hS6 := (hS4.later ((Below.refl _ _).drew)).setL p (.int .i64 k)
            have r2 := hS6.cells.2.2.1
            have r3 := set_far (w := (w3.drew.setCell ⟨w.heap.size, k, none⟩ (.int .i64 (Ptr.depN l p))).drew) (g := w.heap.size + 1) (j := p) (u := .int .i64 k) hg2 m3
            have HSN := Kept.mk hS6
            clear hS6
            clear hS4
            go_wp2_with (fail)
            go_region_held3 (fun wx => wx.cell? ⟨w.heap.size + 1 + 1, 1, none⟩ = some (.slice (some ⟨w.heap.size, 0, none⟩) l.length l.length) ∧ wx.cell? ⟨w.heap.size, p, none⟩ = some (.int .i64 (Ptr.depN l p)) ∧ wx.cell? ⟨wr.heap.size, 3, none⟩ = some (.int .i64 p)) (first | exact ⟨x1, y1, n3⟩ | exact ⟨u1, y9, m3⟩) (fail)
            go_wp2_with (fail)
            go_region_held3 (fun wx => wx.cell? ⟨w.heap.size + 1 + 1, 2, none⟩ = some (.slice (some ⟨w.heap.size + 1, 0, none⟩) l.length l.length) ∧ wx.cell? ⟨wr.heap.size, 3, none⟩ = some (.int .i64 p)) (first | exact ⟨u2, m3⟩ | exact ⟨r2, r3⟩) (fail)
            go_wp2
            go_roundw
            case rel => exact ⟨k + 1, E, M, tp, _, _, by omega, by go_num, by go_num, rfl, HA2, hE2, hM2, ⟨HSN.out⟩, hD2, hL2, hT2⟩
            case measure => simp [intOf]; omega
      · obtain rfl : k = l.length := by omega
        have hX : Kept (Ptr.chk l true = bif E == 1 then (if 60 < M then 131 else 0) else 4) := ⟨by rw [Ptr.chk_yes HBG.out HA.out, HEL.out, HDP.out]; (by_cases h : E = 1; · subst h; simp); · simp [h, show (E == 1) = false from beq_eq_false_iff_ne.2 h]⟩
        have m1 : ((E : Int) != 1) = !(E == 1) := congrArg Bool.not (beq_cast E 1)
        generalize (E == 1) = y at m1 hX
        by_cases h60 : 60 < M
        · rw [if_pos h60] at hX
          have q60 : (60 : Int) < (M : Int) := by omega
          clear h60
          cases y
          all_goals
            go_wp2
            go_ret
            exact ⟨ret_i64 (by rw [hX.out]; rfl), HS.out.below⟩
        · rw [if_neg h60] at hX
          have q60 : ¬ (60 : Int) < (M : Int) := by omega
          clear h60
          cases y
          all_goals
            go_wp2
            go_ret
            exact ⟨ret_i64 (by rw [hX.out]; rfl), HS.out.below⟩
  · clear hmk
    go_wp2
    go_loopw [6, 7, 24] (fun e d i wx => ∃ (k E M : Nat) (tp : Int) (fd fl : Nat → Value), k ≤ l.length ∧ i = .int .i64 k ∧ e = .int .i64 E ∧ d = .int .i64 M ∧ Kept (Ptr.pallB l true k = true) ∧ Kept (Ptr.elems l k = E) ∧ Kept (Ptr.deepest l k = M) ∧ Kept (St w (w.heap.size + 1) (w.heap.size) (w.heap.size + 1 + 1) l.length (.slice A l.length c) tp fd fl wx) ∧ Kept (Deps l k fd) ∧ Kept (Lasts l k fl) ∧ Kept (True)) (fun _ _ i _ => l.length - (intOf i).toNat)
    case atStart => exact ⟨0, 0, 0, -1, fun _ => .int .i64 0, fun _ => .int .i64 0, by omega, rfl, rfl, rfl, ⟨rfl⟩, ⟨rfl⟩, ⟨rfl⟩, ⟨st_made2 A l c w⟩, ⟨deps_zero l⟩, ⟨lasts_zero l _⟩, ⟨trivial⟩⟩
    case round =>
      obtain ⟨k, E, M, tp, fd, fl, hk, rfl, rfl, rfl, HA, HEL, HDP, HS, HFD, HFL, HTP⟩ := hrel
      have i0 : (0 : Int) ≤ (k : Int) := by omega
      by_cases hlt : k < l.length
      · have i1 : (k : Int) < (l.length : Int) := by omega
        have hEk : E ≤ k := by rw [← HEL.out]; exact Ptr.elems_le' l k
        have hS := HS.out
        have hrl := HRD.out.below hS.below
        obtain ⟨b, off, rfl, c0, c1, c2, c3⟩ := hrl.at_ hlt
        obtain ⟨x0, x1, x2, x3, x4⟩ := hS.cells
        have y2 : ∀ o, (wr.alloc o).cell? ⟨w.heap.size + 1 + 1, 2, none⟩ = _ := fun o => cell_keep (box_below wr o) x2
        have y4 : ∀ o, (wr.alloc o).cell? ⟨w.heap.size, k, none⟩ = some (fl k) := fun o => cell_keep (box_below wr o) (hS.last.cell hlt)
        have y5 : ∀ o, (wr.alloc o).frozen? ⟨w.heap.size, k, none⟩ = false := fun o => ((hS.alloc o).last.frozen k)
        simp only at c0 c1 c2 c3
        obtain ⟨X, hX⟩ : ∃ X : ByteArray, X = ⟨(Ptr.nam l k).toArray⟩ := ⟨_, rfl⟩
        obtain ⟨V, hV⟩ : ∃ V : ByteArray, V = ⟨(Ptr.val l k).toArray⟩ := ⟨_, rfl⟩
        have hXl : X.toList = Ptr.nam l k := by rw [hX, ByteArray.toList_eq]
        have hVl : V.toList = Ptr.val l k := by rw [hV, ByteArray.toList_eq]
        rw [← hX] at c1
        rw [← hV] at c2
        have HXL := Kept.mk hXl; have HVL := Kept.mk hVl
        obtain ⟨W, hW⟩ : ∃ W, W = (wr.alloc (.cells #[.int .u8 (Ptr.kin l k), .string X, .string V, .int .i64 (Ptr.par l k)] 32)).setCell ⟨w.heap.size, k, none⟩ (.int .i64 (-1)) := ⟨_, rfl⟩
        have hSW : St w (w.heap.size + 1) (w.heap.size) (w.heap.size + 1 + 1) l.length (.slice (some ⟨b, off, none⟩) l.length c) tp fd (fun j => if j = k then .int .i64 (-1) else fl j) W := by rw [hW]; exact (hS.alloc _).setL k (.int .i64 (-1))
        have hgl : w.heap.size ≠ wr.heap.size := by have := hS.lt; omega
        have n0 : W.cell? ⟨wr.heap.size, 0, none⟩ = some (.int .u8 (Ptr.kin l k)) := by rw [hW]; exact far_box _ _ _ _ _ _ (fun e => hgl e.symm) rfl
        have n1 : W.cell? ⟨wr.heap.size, 1, none⟩ = some (.string X) := by rw [hW]; exact far_box _ _ _ _ _ _ (fun e => hgl e.symm) rfl
        have n2 : W.cell? ⟨wr.heap.size, 2, none⟩ = some (.string V) := by rw [hW]; exact far_box _ _ _ _ _ _ (fun e => hgl e.symm) rfl
        have n3 : W.cell? ⟨wr.heap.size, 3, none⟩ = some (.int .i64 (Ptr.par l k)) := by rw [hW]; exact far_box _ _ _ _ _ _ (fun e => hgl e.symm) rfl
        have hRW := HRD.out.below hSW.below
        have hRk := Ptr.allB_rng (Ptr.pallB_allB HA.out)
        have HWW := Kept.mk hW; have HSW := Kept.mk hSW; have HRW := Kept.mk hRW
        have HN0 := Kept.mk n0; have HN1 := Kept.mk n1; have HN2 := Kept.mk n2; have HN3 := Kept.mk n3
        have cO := open_any (w.heap.size + 1 + 1) (some ⟨b, off, none⟩) l c k W hSW.cells.1 hRW hlt hRk hl
        have cF := fun (ho : Ptr.openB l k = true) (hp : 0 ≤ Ptr.par l k ∨ tp = Ptr.lastC l (-1) k) => fits_any (w.heap.size + 1 + 1) (w.heap.size) tp (some ⟨b, off, none⟩) l c k W hSW.cells.1 hSW.cells.2.2.1 hSW.cells.2.2.2.1 (before_ok hSW HFL.out hlt hRk ho hp) hRW hlt (Ptr.open_range hRk ho) hl (HF.out k).1 (HF.out k).2.1 (HEV.out.below hSW.below) (HF.out k).2.2
        have hbad : Ptr.pgood l true k = false → Kept (Ptr.chk l true = 4) := fun e => ⟨Ptr.chk_no HBG.out (Ptr.pallB_no e _ hlt)⟩
        have HBAD := Kept.mk hbad
        have hgood : Ptr.pgood l true k = true → Kept (Ptr.pallB l true (k + 1) = true) := fun e => ⟨by unfold Ptr.pallB; rw [HA.out, e]; rfl⟩
        have HGOOD := Kept.mk hgood
        have hRO := fun (ho : Ptr.openB l k = true) => hRk.succ ho
        have HRO := Kept.mk hRO; have hRk2 := Kept.mk hRk
        have hPG : Ptr.pgood l true k = (Ptr.openB l k && (if (true && k == 0) = true then Ptr.headB l k else !(true && decide (Ptr.par l k < 0)) && Ptr.fitsB l k)) := rfl
        have CF := Kept.mk cF
        have HPG := Kept.mk hPG
        have HK : Kept (∃ K : Nat, K = Ptr.kin l k) := ⟨_, rfl⟩
        have HLT := Kept.mk hlt
        clear hS hrl x0 x1 x2 x3 x4 hX hV hXl hVl hSW hgl hRW hRk cF hbad hgood hRO hPG hW n0 n1 n2 n3
        generalize hoo : Ptr.openB l k = O at cO
        have HOO := Kept.mk hoo
        clear hoo
        go_wp2_with (fail)
        rw [← HWW.out]
        refine cO.mono ?_; rintro e w' ⟨rfl, rfl⟩
        clear y2 y4 y5 c0 c1 c2 c3 cO
        cases O with
        | false =>
          have hX := HBAD.out (by rw [HPG.out, HOO.out]; rfl)
          go_wp2
          go_ret
          exact ⟨ret_i64 (by rw [hX.out]; rfl), HSW.out.below⟩
        | true =>
          have n0 := HN0.out; have n1 := HN1.out; have n2 := HN2.out; have n3 := HN3.out
          by_cases hk0 : k = 0
          · have hz0 : ((k : Int) == 0) = true := by simp; omega
            have hr0 := Ptr.open_range hRk2.out HOO.out
            have hH : Ptr.pgood l true k = Ptr.headB l k := by rw [HPG.out, HOO.out, if_pos (by simpa using hk0)]; rfl
            unfold Ptr.headB at hH
            have HH := Kept.mk hH
            obtain ⟨K, hK⟩ : ∃ K, Ptr.kin l k = K := ⟨_, rfl⟩
            rw [hK] at n0
            have HKK := Kept.mk hK
            clear hH hK
            by_cases h1 : K = 1
            · subst h1
              by_cases hx : Ptr.nam l k = []
              · have xz : X.toList = [] := by rw [HXL.out, hx]
                by_cases hv : Ptr.val l k = []
                · have vz : V.toList = [] := by rw [HVL.out, hv]
                  have HA2 := HGOOD.out (by rw [HH.out, HKK.out, hx, hv]; rfl)
                  have HR1 := Kept.mk (HRO.out HOO.out)
                  have hdn : Ptr.depN l k = 0 := by rw [Ptr.depN_up HR1.out, HKK.out, if_neg (by omega), if_pos (by omega)]
                  have hE2 : Kept (Ptr.elems l (k + 1) = E) := ⟨by rw [Ptr.elems_at, HEL.out, HKK.out, if_neg (fun e => by omega), Nat.add_zero]⟩
                  have hM2 : Kept (Ptr.deepest l (k + 1) = M) := ⟨by rw [Ptr.deepest_at, HDP.out, HKK.out, if_neg (by omega)]⟩
                  have hL2 : Kept (Lasts l (k + 1) (fun j => if j = k then .int .i64 (-1) else fl j)) := ⟨lasts_next HFL.out (fun q hq => HR1.out q (by omega)) (.inl (by omega))⟩
                  have hD2 : Kept (Deps l (k + 1) fd) := ⟨deps_next HFD.out (by rw [hdn, HFD.out.2 k (Nat.le_refl _)]; rfl) (fun j hj => rfl)⟩
                  clear hx hv hk0
                  go_wp2
                  go_roundw
                  case rel => exact ⟨k + 1, E, M, tp, _, _, by omega, by go_num, by go_num, rfl, HA2, hE2, hM2, ⟨HSW.out⟩, hD2, hL2, ⟨trivial⟩⟩
                  case measure => simp [intOf]; omega
                · obtain ⟨vz, vz2⟩ : (V.toList == []) = false ∧ V.toList.isEmpty = false := by rw [HVL.out]; exact ⟨by simpa using hv, by simpa using hv⟩
                  have hX := HBAD.out (by rw [HH.out, decide_eq_false hv, Bool.and_false])
                  clear hx hv hk0
                  go_wp2
                  go_ret
                  exact ⟨ret_i64 (by rw [hX.out]; rfl), HSW.out.below⟩
              · obtain ⟨xz, xz2⟩ : (X.toList == []) = false ∧ X.toList.isEmpty = false := by rw [HXL.out]; exact ⟨by simpa using hx, by simpa using hx⟩
                have hX := HBAD.out (by rw [HH.out, decide_eq_false hx, Bool.and_false, Bool.false_and])
                clear hx hk0
                go_wp2
                go_ret
                exact ⟨ret_i64 (by rw [hX.out]; rfl), HSW.out.below⟩
            · have e1 : ((K : Int) != 1) = true := by simp; omega
              have hX := HBAD.out (by rw [HH.out, HKK.out, decide_eq_false h1]; rfl)
              clear hk0
              go_wp2
              go_ret
              exact ⟨ret_i64 (by rw [hX.out]; rfl), HSW.out.below⟩
          have hz0 : ((k : Int) == 0) = false := by simp; omega
          by_cases hp : Ptr.par l k < 0
          · have hX := HBAD.out (by rw [HPG.out, HOO.out, if_neg (by simpa using hk0), decide_eq_true hp]; rfl)
            go_wp2
            go_ret
            exact ⟨ret_i64 (by rw [hX.out]; rfl), HSW.out.below⟩
          have cF := CF.out HOO.out (.inl (by omega))
          obtain ⟨p', hp'⟩ : ∃ p' : Nat, Ptr.par l k = p' := ⟨(Ptr.par l k).toNat, by omega⟩
          rw [hp'] at n3
          have HN3 := Kept.mk n3
          have q2 : ¬ (p' : Int) < 0 := by omega
          have hPG2 : Ptr.pgood l true k = Ptr.fitsB l k := by rw [HPG.out, HOO.out, if_neg (by simpa using hk0), decide_eq_false hp]; rfl
          have HPP := Kept.mk hp'
          clear hp hp'
          generalize Ptr.fitsB l k = B at cF hPG2
          have HPG2 := Kept.mk hPG2
          have CF2 := Kept.mk cF
          have HR1 := Kept.mk (HRO.out HOO.out)
          clear hPG2 cF
          go_wp2_with (fail)
          refine CF2.out.mono ?_; rintro e w3 ⟨rfl, hb3⟩
          have n0 := cell_keep hb3 HN0.out; have n1 := cell_keep hb3 HN1.out; have n2 := cell_keep hb3 HN2.out; have n3 := cell_keep hb3 HN3.out
          have hS3 := HSW.out.later hb3
          obtain ⟨x0, x1, x2, x3, x4⟩ := hS3.cells
          have HS3 := Kept.mk hS3
          have HB3 := Kept.mk hb3
          have HSZ : Kept (wr.heap.size < w3.heap.size) := ⟨cell_lt n0⟩
          clear hS3 hb3
          cases B with
          | false =>
            have hX := HBAD.out HPG2.out
            go_wp2
            go_ret
            exact ⟨ret_i64 (by rw [hX.out]; rfl), HS3.out.below⟩
          | true =>
            have HA2 := HGOOD.out HPG2.out
            obtain ⟨K, hK⟩ : ∃ K, Ptr.kin l k = K := ⟨_, rfl⟩
            obtain ⟨P, hP⟩ : ∃ P, Ptr.par l k = P := ⟨_, rfl⟩
            rw [hK] at n0
            have hpr := HR1.out k (by omega)
            rw [hP] at hpr
            have hg1 : wr.heap.size ≠ w.heap.size + 1 := by have := HS.out.lt; omega
            have hg2 : wr.heap.size ≠ w.heap.size := by have := HS.out.lt; omega
            have hg3 : wr.heap.size ≠ w.heap.size + 1 + 1 := by have := HS.out.lt; omega
            have hp2 := HPP.out
            rw [hP] at hp2
            subst hp2
            have HP := Kept.mk hP; have HKK := Kept.mk hK
            clear hP hK
            obtain ⟨p, rfl⟩ : ∃ p : Nat, p = p' := ⟨p', rfl⟩
            have p0 : (0 : Int) ≤ (p : Int) := by omega
            have p1 : (p : Int) < (l.length : Int) := by omega
            have p2 : ¬ (p : Int) < 0 := by omega
            have hpk : p < k := by omega
            have y1 := HS3.out.deep.cell (i := p) (by omega)
            rw [HFD.out.1 p hpk] at y1
            have y3 := HS3.out.deep.cell hlt
            rw [HFD.out.2 k (Nat.le_refl _)] at y3
            have y4 := HS3.out.deep.frozen k
            have hdl := Ptr.depN_le l p
            have y6 := HS3.out.last.cell (i := p) (by omega)
            rw [if_neg (by omega), HFL.out p hpk] at y6
            have y7 := HS3.out.last.frozen p
            have y9 : (w3.drew.setCell ⟨w.heap.size + 1, k, none⟩ (.int .i64 (Ptr.depN l p))).cell? ⟨w.heap.size + 1, p, none⟩ = some (.int .i64 (Ptr.depN l p)) := by
              have h := ((HS3.out.later ((Below.refl _ _).drew)).setD k (.int .i64 (Ptr.depN l p))).deep.cell (i := p) (by omega)
              rw [if_neg (by omega), HFD.out.1 p hpk] at h
              exact h
            by_cases k2 : K = 2
            · subst k2
              have hdn : Ptr.depN l k = 1 + Ptr.depN l p := by rw [Ptr.depN_up HR1.out, HKK.out, HP.out, if_pos rfl, if_neg (by omega), Int.toNat_natCast]
              have hM2 : Kept (Ptr.deepest l (k + 1) = max M (Ptr.depN l k)) := ⟨by rw [Ptr.deepest_at, HDP.out, HKK.out, if_pos rfl]⟩
              have hT2 : Kept True := ⟨trivial⟩
              have hL2 : Kept (Lasts l (k + 1) (fun j => if j = p then .int .i64 k else if j = k then .int .i64 (-1) else fl j)) := ⟨lasts_put HFL.out (fun q hq => HR1.out q (by omega)) HP.out (by rw [HKK.out]; omega)⟩
              have hD2 : Kept (Deps l (k + 1) (fun j => if j = k then .int .i64 ((Ptr.depN l p : Int) + 1) else if j = k then .int .i64 (Ptr.depN l p) else fd j)) := ⟨deps_next HFD.out (by rw [if_pos rfl, hdn]; congr 1; omega) (fun j hj => by rw [if_neg hj, if_neg hj])⟩
              have hS4 := (HS3.out.later ((Below.refl _ _).drew)).setD k (.int .i64 (Ptr.depN l p))
              obtain ⟨u0, u1, u2, u3, u4⟩ := hS4.cells
              have v1 := hS4.deep.cell hlt
              rw [if_pos rfl] at v1
              have v2 := hS4.deep.frozen k
              have v3 := hS4.last.cell (i := p) (by omega)
              rw [if_neg (by omega), HFL.out p (by omega)] at v3
              have v4 := hS4.last.frozen p
              have m0 := set_far (w := w3.drew) (g := w.heap.size + 1) (j := k) (u := .int .i64 (Ptr.depN l p)) hg1 n0
              have m3 := set_far (w := w3.drew) (g := w.heap.size + 1) (j := k) (u := .int .i64 (Ptr.depN l p)) hg1 n3
              have hS5 := hS4.setD k (.int .i64 ((Ptr.depN l p : Int) + 1))
              obtain ⟨s0, s1, s2, s3, s4⟩ := hS5.cells
              have z1 := hS5.deep.cell hlt
              rw [if_pos rfl] at z1
              have z3 := hS5.last.cell (i := p) (by omega)
              rw [if_neg (by omega), HFL.out p (by omega)] at z3
              have z4 := hS5.last.frozen p
              have o0 := set_far (w := (w3.drew.setCell ⟨w.heap.size + 1, k, none⟩ (.int .i64 (Ptr.depN l p)))) (g := w.heap.size + 1) (j := k) (u := .int .i64 ((Ptr.depN l p : Int) + 1)) hg1 m0
              have o3 := set_far (w := (w3.drew.setCell ⟨w.heap.size + 1, k, none⟩ (.int .i64 (Ptr.depN l p)))) (g := w.heap.size + 1) (j := k) (u := .int .i64 ((Ptr.depN l p : Int) + 1)) hg1 m3
              have hS6 := (hS5.later ((Below.refl _ _).drew)).setL p (.int .i64 k)
              have r2 := hS6.cells.2.2.1
              have r3 := set_far (w := ((w3.drew.setCell ⟨w.heap.size + 1, k, none⟩ (.int .i64 (Ptr.depN l p))).setCell ⟨w.heap.size + 1, k, none⟩ (.int .i64 ((Ptr.depN l p : Int) + 1))).drew) (g := w.heap.size) (j := p) (u := .int .i64 k) hg2 o3
              have HSN := Kept.mk hS6
              clear hS6
              clear hS4 hS5
              go_wp2_with (fail)
              go_region_held3 (fun wx => wx.cell? ⟨w.heap.size + 1 + 1, 1, none⟩ = some (.slice (some ⟨w.heap.size + 1, 0, none⟩) l.length l.length) ∧ wx.cell? ⟨w.heap.size + 1, p, none⟩ = some (.int .i64 (Ptr.depN l p)) ∧ wx.cell? ⟨wr.heap.size, 3, none⟩ = some (.int .i64 p)) (first | exact ⟨x1, y1, n3⟩ | exact ⟨u1, y9, m3⟩) (fail)
              go_wp2_with (fail)
              · rename_i hq _
                have hz : Kept (p = 0) := ⟨by have := hq; simp at this; omega⟩
                have hE2 : Kept (Ptr.elems l (k + 1) = E + 1) := ⟨by have hq := hz.out; rw [Ptr.elems_at, HEL.out, HKK.out, HP.out, if_pos ⟨rfl, by omega⟩]⟩
                go_region_held3 (fun wx => wx.cell? ⟨w.heap.size + 1 + 1, 2, none⟩ = some (.slice (some ⟨w.heap.size, 0, none⟩) l.length l.length) ∧ wx.cell? ⟨wr.heap.size, 3, none⟩ = some (.int .i64 p)) (first | exact ⟨s2, o3⟩ | exact ⟨r2, r3⟩) (fail)
                go_wp2
                go_roundw
                case rel => exact ⟨k + 1, E + 1, max M (Ptr.depN l k), tp, _, _, by omega, by go_num, by go_num, by rw [hdn]; congr 1; omega, HA2, hE2, hM2, ⟨HSN.out⟩, hD2, hL2, hT2⟩
                case measure => simp [intOf]; omega
              · rename_i hq _
                have hz : Kept (p ≠ 0) := ⟨by have := hq; simp at this; omega⟩
                have hE2 : Kept (Ptr.elems l (k + 1) = E) := ⟨by have hq := hz.out; rw [Ptr.elems_at, HEL.out, HKK.out, HP.out, if_neg (fun e => by omega), Nat.add_zero]⟩
                go_region_held3 (fun wx => wx.cell? ⟨w.heap.size + 1 + 1, 2, none⟩ = some (.slice (some ⟨w.heap.size, 0, none⟩) l.length l.length) ∧ wx.cell? ⟨wr.heap.size, 3, none⟩ = some (.int .i64 p)) (first | exact ⟨s2, o3⟩ | exact ⟨r2, r3⟩) (fail)
                go_wp2
                go_roundw
                case rel => exact ⟨k + 1, E, max M (Ptr.depN l k), tp, _, _, by omega, by go_num, by go_num, by rw [hdn]; congr 1; omega, HA2, hE2, hM2, ⟨HSN.out⟩, hD2, hL2, hT2⟩
                case measure => simp [intOf]; omega
            by_cases k3 : K = 3
            · subst k3
              have hdn : Ptr.depN l k = 0 + Ptr.depN l p := by rw [Ptr.depN_up HR1.out, HKK.out, HP.out, if_neg (by omega), if_neg (by omega), Int.toNat_natCast]
              have hE2 : Kept (Ptr.elems l (k + 1) = E) := ⟨by rw [Ptr.elems_at, HEL.out, HKK.out, HP.out, if_neg (fun e => by omega), Nat.add_zero]⟩
              have hM2 : Kept (Ptr.deepest l (k + 1) = M) := ⟨by rw [Ptr.deepest_at, HDP.out, HKK.out, if_neg (by omega)]⟩
              have hT2 : Kept True := ⟨trivial⟩
              have hL2 : Kept (Lasts l (k + 1) (fun j => if j = k then .int .i64 (-1) else fl j)) := ⟨lasts_next HFL.out (fun q hq => HR1.out q (by omega)) (.inr HKK.out)⟩
              have hD2 : Kept (Deps l (k + 1) (fun j => if j = k then .int .i64 (Ptr.depN l p) else fd j)) := ⟨deps_next HFD.out (by rw [if_pos rfl, hdn, Nat.zero_add]) (fun j hj => by rw [if_neg hj])⟩
              have hS4 := (HS3.out.later ((Below.refl _ _).drew)).setD k (.int .i64 (Ptr.depN l p))
              obtain ⟨u0, u1, u2, u3, u4⟩ := hS4.cells
              have v1 := hS4.deep.cell hlt
              rw [if_pos rfl] at v1
              have v2 := hS4.deep.frozen k
              have v3 := hS4.last.cell (i := p) (by omega)
              rw [if_neg (by omega), HFL.out p (by omega)] at v3
              have v4 := hS4.last.frozen p
              have m0 := set_far (w := w3.drew) (g := w.heap.size + 1) (j := k) (u := .int .i64 (Ptr.depN l p)) hg1 n0
              have m3 := set_far (w := w3.drew) (g := w.heap.size + 1) (j := k) (u := .int .i64 (Ptr.depN l p)) hg1 n3
              have HSN := Kept.mk hS4
              clear hS4
              go_wp2_with (fail)
              go_region_held3 (fun wx => wx.cell? ⟨w.heap.size + 1 + 1, 1, none⟩ = some (.slice (some ⟨w.heap.size + 1, 0, none⟩) l.length l.length) ∧ wx.cell? ⟨w.heap.size + 1, p, none⟩ = some (.int .i64 (Ptr.depN l p)) ∧ wx.cell? ⟨wr.heap.size, 3, none⟩ = some (.int .i64 p)) (first | exact ⟨x1, y1, n3⟩ | exact ⟨u1, y9, m3⟩) (fail)
              go_wp2_with (fail)
              go_roundw
              case rel => exact ⟨k + 1, E, M, tp, _, _, by omega, by go_num, by go_num, rfl, HA2, hE2, hM2, ⟨HSN.out⟩, hD2, hL2, hT2⟩
              case measure => simp [intOf]; omega
            have e2 : ((K : Int) == 2) = false := by simp; omega
            have e3 : ((K : Int) == 3) = false := by simp; omega
            have hdn : Ptr.depN l k = 0 + Ptr.depN l p := by rw [Ptr.depN_up HR1.out, HKK.out, HP.out, if_neg (by omega), if_neg (by omega), Int.toNat_natCast]
            have hE2 : Kept (Ptr.elems l (k + 1) = E) := ⟨by rw [Ptr.elems_at, HEL.out, HKK.out, HP.out, if_neg (fun e => by omega), Nat.add_zero]⟩
            have hM2 : Kept (Ptr.deepest l (k + 1) = M) := ⟨by rw [Ptr.deepest_at, HDP.out, HKK.out, if_neg (by omega)]⟩
            have hT2 : Kept True := ⟨trivial⟩
            have hL2 : Kept (Lasts l (k + 1) (fun j => if j = p then .int .i64 k else if j = k then .int .i64 (-1) else fl j)) := ⟨lasts_put HFL.out (fun q hq => HR1.out q (by omega)) HP.out (by rw [HKK.out]; omega)⟩
            have hD2 : Kept (Deps l (k + 1) (fun j => if j = k then .int .i64 (Ptr.depN l p) else fd j)) := ⟨deps_next HFD.out (by rw [if_pos rfl, hdn, Nat.zero_add]) (fun j hj => by rw [if_neg hj])⟩
            have hS4 := (HS3.out.later ((Below.refl _ _).drew)).setD k (.int .i64 (Ptr.depN l p))
            obtain ⟨u0, u1, u2, u3, u4⟩ := hS4.cells
            have v1 := hS4.deep.cell hlt
            rw [if_pos rfl] at v1
            have v2 := hS4.deep.frozen k
            have v3 := hS4.last.cell (i := p) (by omega)
            rw [if_neg (by omega), HFL.out p (by omega)] at v3
            have v4 := hS4.last.frozen p
            have m0 := set_far (w := w3.drew) (g := w.heap.size + 1) (j := k) (u := .int .i64 (Ptr.depN l p)) hg1 n0
            have m3 := set_far (w := w3.drew) (g := w.heap.size + 1) (j := k) (u := .int .i64 (Ptr.depN l p)) hg1 n3
            have hS6 := (hS4.later ((Below.refl _ _).drew)).setL p (.int .i64 k)
            have r2 := hS6.cells.2.2.1
            have r3 := set_far (w := (w3.drew.setCell ⟨w.heap.size + 1, k, none⟩ (.int .i64 (Ptr.depN l p))).drew) (g := w.heap.size) (j := p) (u := .int .i64 k) hg2 m3
            have HSN := Kept.mk hS6
            clear hS6
            clear hS4
            go_wp2_with (fail)
            go_region_held3 (fun wx => wx.cell? ⟨w.heap.size + 1 + 1, 1, none⟩ = some (.slice (some ⟨w.heap.size + 1, 0, none⟩) l.length l.length) ∧ wx.cell? ⟨w.heap.size + 1, p, none⟩ = some (.int .i64 (Ptr.depN l p)) ∧ wx.cell? ⟨wr.heap.size, 3, none⟩ = some (.int .i64 p)) (first | exact ⟨x1, y1, n3⟩ | exact ⟨u1, y9, m3⟩) (fail)
            go_wp2_with (fail)
            go_region_held3 (fun wx => wx.cell? ⟨w.heap.size + 1 + 1, 2, none⟩ = some (.slice (some ⟨w.heap.size, 0, none⟩) l.length l.length) ∧ wx.cell? ⟨wr.heap.size, 3, none⟩ = some (.int .i64 p)) (first | exact ⟨u2, m3⟩ | exact ⟨r2, r3⟩) (fail)
            go_wp2
            go_roundw
            case rel => exact ⟨k + 1, E, M, tp, _, _, by omega, by go_num, by go_num, rfl, HA2, hE2, hM2, ⟨HSN.out⟩, hD2, hL2, hT2⟩
            case measure => simp [intOf]; omega
      · obtain rfl : k = l.length := by omega
        have hX : Kept (Ptr.chk l true = bif E == 1 then (if 60 < M then 131 else 0) else 4) := ⟨by rw [Ptr.chk_yes HBG.out HA.out, HEL.out, HDP.out]; (by_cases h : E = 1; · subst h; simp); · simp [h, show (E == 1) = false from beq_eq_false_iff_ne.2 h]⟩
        have m1 : ((E : Int) != 1) = !(E == 1) := congrArg Bool.not (beq_cast E 1)
        generalize (E == 1) = y at m1 hX
        by_cases h60 : 60 < M
        · rw [if_pos h60] at hX
          have q60 : (60 : Int) < (M : Int) := by omega
          clear h60
          cases y
          all_goals
            go_wp2
            go_ret
            exact ⟨ret_i64 (by rw [hX.out]; rfl), HS.out.below⟩
        · rw [if_neg h60] at hX
          have q60 : ¬ (60 : Int) < (M : Int) := by omega
          clear h60
          cases y
          all_goals
            go_wp2
            go_ret
            exact ⟨ret_i64 (by rw [hX.out]; rfl), HS.out.below⟩
end Go.Proofs.YtemfmidhekdekaaGreatDoor.Wtr
namespace Go.Proofs.YtemfmidhekdekaaGreatDoor.Wtr
open Go Go.RowKit Go.Proofs.YtemfmidhekdekaaGreatDoor.Kb

theorem check_any (A : Option Addr) (l : List Ptr.Nd) (c : Nat) (w : World) (hr : RdN w A l) (hl : l.length ≤ 100000) (hf : FitP l) (hE : TEnv w) :
    Calls Tryz.prog 11 #[.slice A l.length c] w fun e w' => e = .returned (.int .i64 (Ptr.chk l true)) ∧ Below w.heap.size w w' := by
  have cA := Kept.mk (all_tree A l c w hr hl hf hE)
  clear hr hf hE
  go_enter Tryz.func11, Tryz.ntmps11
  go_wp2_with (go_at_call 27; refine cA.out.mono ?_; rintro e w' ⟨rfl, hb⟩)
  go_ret
  exact ⟨rfl, hb⟩
theorem fragment_any (A : Option Addr) (l : List Ptr.Nd) (c : Nat) (w : World) (hr : RdN w A l) (hl : l.length ≤ 100000) (hf : FitP l) (hE : TEnv w) :
    Calls Tryz.prog 28 #[.slice A l.length c] w fun e w' => e = .returned (.int .i64 (Ptr.chk l false)) ∧ Below w.heap.size w w' := by
  have cA := Kept.mk (all_frag A l c w hr hl hf hE)
  clear hr hf hE
  go_enter Tryz.func28, Tryz.ntmps28
  go_wp2_with (go_at_call 27; refine cA.out.mono ?_; rintro e w' ⟨rfl, hb⟩)
  go_ret
  exact ⟨rfl, hb⟩
end Go.Proofs.YtemfmidhekdekaaGreatDoor.Wtr
