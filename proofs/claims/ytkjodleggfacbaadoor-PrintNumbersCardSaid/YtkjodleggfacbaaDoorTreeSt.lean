/- Words for the state of the program's check of trees (chapter 06): its block, its two rows. -/
import Derived.Test.YtkjodleggfacbaaDoorNodeKit
import Derived.Deep.OwnRows
namespace Go.Proofs.YtkjodleggfacbaaDoor.Wtr
open Go Go.RowKit Go.Proofs.YtkjodleggfacbaaDoor.Kb

/-- the state of the check: the row of nodes, how deep each is, the last child of each, the last top -/
structure St (w : World) (gd gl D n : Nat) (tv : Value) (tp : Int) (fd fl : Nat → Value) (wx : World) : Prop where
  below : Below w.heap.size w wx
  deep : wx.rowIs gd 3 n fd
  last : wx.rowIs gl 3 n fl
  blk : wx.heap[D]? = some (.cells #[tv, .slice (some ⟨gd, 0, none⟩) n n, .slice (some ⟨gl, 0, none⟩) n n, .int .i64 tp] 66 (0, 0))
  lo : w.heap.size ≤ gd ∧ w.heap.size ≤ gl ∧ w.heap.size ≤ D
  ne : gd ≠ gl ∧ D ≠ gd ∧ D ≠ gl
namespace St
variable {w wx wy : World} {gd gl D n : Nat} {tv : Value} {tp : Int} {fd fl : Nat → Value}
theorem lt (h : St w gd gl D n tv tp fd fl wx) : gd < wx.heap.size ∧ gl < wx.heap.size ∧ D < wx.heap.size := ⟨h.deep.lt, h.last.lt, (Array.getElem?_eq_some_iff.1 h.blk).1⟩
theorem cells (h : St w gd gl D n tv tp fd fl wx) : wx.cell? ⟨D, 0, none⟩ = some tv ∧ wx.cell? ⟨D, 1, none⟩ = some (.slice (some ⟨gd, 0, none⟩) n n) ∧ wx.cell? ⟨D, 2, none⟩ = some (.slice (some ⟨gl, 0, none⟩) n n) ∧ wx.cell? ⟨D, 3, none⟩ = some (.int .i64 tp) ∧ wx.frozen? ⟨D, 3, none⟩ = false :=
  ⟨Joins.cell_of_block h.blk 0, Joins.cell_of_block h.blk 1, Joins.cell_of_block h.blk 2, Joins.cell_of_block h.blk 3, Joins.unfrozen_of_block h.blk 3⟩
theorem later (h : St w gd gl D n tv tp fd fl wx) (hb : Below wx.heap.size wx wy) : St w gd gl D n tv tp fd fl wy :=
  ⟨h.below.trans (hb.mono h.below.size), h.deep.of_block (hb.block _ h.lt.1), h.last.of_block (hb.block _ h.lt.2.1), (hb.block _ h.lt.2.2).trans h.blk, h.lo, h.ne⟩
theorem alloc (h : St w gd gl D n tv tp fd fl wx) (o : Obj) : St w gd gl D n tv tp fd fl (wx.alloc o) := h.later ((Below.refl _ _).alloc (Nat.le_refl _) o)
theorem setL (h : St w gd gl D n tv tp fd fl wx) (i : Nat) (z : Value) : St w gd gl D n tv tp fd (fun j => if j = i then z else fl j) (wx.setCell ⟨gl, i, none⟩ z) :=
  ⟨h.below.setCell h.lo.2.1 z, h.deep.setOther (a := ⟨gl, i, none⟩) h.ne.1 z, h.last.set i z, (Below.heap_setCell wx ⟨gl, i, none⟩ z D h.ne.2.2).trans h.blk, h.lo, h.ne⟩
theorem setD (h : St w gd gl D n tv tp fd fl wx) (i : Nat) (z : Value) : St w gd gl D n tv tp (fun j => if j = i then z else fd j) fl (wx.setCell ⟨gd, i, none⟩ z) :=
  ⟨h.below.setCell h.lo.1 z, h.deep.set i z, h.last.setOther (a := ⟨gd, i, none⟩) (fun e => h.ne.1 e.symm) z, (Below.heap_setCell wx ⟨gd, i, none⟩ z D h.ne.2.1).trans h.blk, h.lo, h.ne⟩
theorem setT (h : St w gd gl D n tv tp fd fl wx) (z : Int) : St w gd gl D n tv z fd fl (wx.setCell ⟨D, 3, none⟩ (.int .i64 z)) :=
  ⟨h.below.setCell h.lo.2.2 _, h.deep.setOther (a := ⟨D, 3, none⟩) (fun e => h.ne.2.1 e.symm) _, h.last.setOther (a := ⟨D, 3, none⟩) (fun e => h.ne.2.2 e.symm) _, Joins.block_setCell h.blk _, h.lo, h.ne⟩
theorem congr {fd' fl' : Nat → Value} (h : St w gd gl D n tv tp fd fl wx) (e1 : ∀ j, j < n → fd j = fd' j) (e2 : ∀ j, j < n → fl j = fl' j) : St w gd gl D n tv tp fd' fl' wx :=
  ⟨h.below, h.deep.congr e1, h.last.congr e2, h.blk, h.lo, h.ne⟩
end St
end Go.Proofs.YtkjodleggfacbaaDoor.Wtr
