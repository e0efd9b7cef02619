/- Words for the walk over the program's check of a row of nodes (chapter 06). -/
import Derived.Test.YtkjodleggfacbaaDoorTreeFits
import Derived.Test.YtkjodleggfacbaaDoorTreeSt
import Derived.Deep.RegionHeld3
namespace Go.Proofs.YtkjodleggfacbaaDoor.Wtr
open Go Go.RowKit Go.Proofs.YtkjodleggfacbaaDoor.Kb

theorem infoI : (Tryd.prog.info? 3).map (fun i => (i.zero, i.size, i.bytes)) = some (some (.int .i64 0), 1, 8) := by kernel_rfl
/-- the nodes' sizes, as they come in -/
def FitP (l : List Ptr.Nd) : Prop := ∀ i, (Ptr.nam l i).length ≤ 9223372036854775807 ∧ (Ptr.val l i).length ≤ 9223372036854775807 ∧ Ptr.kin l i ≤ 255
/-- how deep each node ahead of k is; nought from k on -/
def Deps (l : List Ptr.Nd) (k : Nat) (f : Nat → Value) : Prop := (∀ q, q < k → f q = .int .i64 (Ptr.depN l q)) ∧ ∀ q, k ≤ q → f q = .int .i64 0
/-- the last child of each node ahead of k -/
def Lasts (l : List Ptr.Nd) (k : Nat) (f : Nat → Value) : Prop := ∀ q : Nat, q < k → f q = .int .i64 (Ptr.lastC l q k)
theorem deps_zero (l : List Ptr.Nd) : Deps l 0 fun _ => .int .i64 0 := ⟨fun q h => by omega, fun _ _ => rfl⟩
theorem lasts_zero (l : List Ptr.Nd) (f : Nat → Value) : Lasts l 0 f := fun q h => by omega
theorem st_made1 (A : Option Addr) (l : List Ptr.Nd) (c : Nat) (w : World) : St w (w.heap.size) (w.heap.size + 1) (w.heap.size + 1 + 1) l.length (.slice A l.length c) (-1) (fun _ => .int .i64 0) (fun _ => .int .i64 0)
    (((w.alloc (.cells (madeCells #[.int .i64 0] l.length) 3)).alloc (.cells (madeCells #[.int .i64 0] l.length) 3)).alloc (.cells #[.slice A l.length c, .slice (some ⟨w.heap.size, 0, none⟩) l.length l.length, .slice (some ⟨w.heap.size + 1, 0, none⟩) l.length l.length, .int .i64 (-1)] 66)).drew := by
  have r1 := World.rowIs_made w (.int .i64 0) l.length 3
  have r2 := World.rowIs_made (w.alloc (.cells (madeCells #[.int .i64 0] l.length) 3)) (.int .i64 0) l.length 3
  rw [World.size_alloc] at r2
  refine ⟨(((box_below w _).alloc (by simp) _).alloc (by simp; omega) _).drew, ((r1.alloc _).alloc _).drew, (r2.alloc _).drew, ?_, by omega, by omega⟩
  have h := heap_alloc_new ((w.alloc (.cells (madeCells #[.int .i64 0] l.length) 3)).alloc (.cells (madeCells #[.int .i64 0] l.length) 3)) (.cells #[.slice A l.length c, .slice (some ⟨w.heap.size, 0, none⟩) l.length l.length, .slice (some ⟨w.heap.size + 1, 0, none⟩) l.length l.length, .int .i64 (-1)] 66)
  rw [World.size_alloc, World.size_alloc] at h
  exact h
theorem st_made2 (A : Option Addr) (l : List Ptr.Nd) (c : Nat) (w : World) : St w (w.heap.size + 1) (w.heap.size) (w.heap.size + 1 + 1) l.length (.slice A l.length c) (-1) (fun _ => .int .i64 0) (fun _ => .int .i64 0)
    (((w.alloc (.cells (madeCells #[.int .i64 0] l.length) 3)).alloc (.cells (madeCells #[.int .i64 0] l.length) 3)).alloc (.cells #[.slice A l.length c, .slice (some ⟨w.heap.size + 1, 0, none⟩) l.length l.length, .slice (some ⟨w.heap.size, 0, none⟩) l.length l.length, .int .i64 (-1)] 66)).drew := by
  have r1 := World.rowIs_made w (.int .i64 0) l.length 3
  have r2 := World.rowIs_made (w.alloc (.cells (madeCells #[.int .i64 0] l.length) 3)) (.int .i64 0) l.length 3
  rw [World.size_alloc] at r2
  refine ⟨(((box_below w _).alloc (by simp) _).alloc (by simp; omega) _).drew, (r2.alloc _).drew, ((r1.alloc _).alloc _).drew, ?_, by omega, by omega⟩
  have h := heap_alloc_new ((w.alloc (.cells (madeCells #[.int .i64 0] l.length) 3)).alloc (.cells (madeCells #[.int .i64 0] l.length) 3)) (.cells #[.slice A l.length c, .slice (some ⟨w.heap.size + 1, 0, none⟩) l.length l.length, .slice (some ⟨w.heap.size, 0, none⟩) l.length l.length, .int .i64 (-1)] 66)
  rw [World.size_alloc, World.size_alloc] at h
  exact h
theorem far_box (w : World) (cs : Array Value) (t : TypeId) (g i j : Nat) {u v : Value} (hg : w.heap.size ≠ g) (h : cs[j]? = some v) : ((w.alloc (.cells cs t)).setCell ⟨g, i, none⟩ u).cell? ⟨w.heap.size, j, none⟩ = some v := by
  rw [World.cell?_of_block (w := w.alloc (.cells cs t)) (a := ⟨w.heap.size, j, none⟩) (Below.heap_setCell _ _ _ _ hg), World.cell?_alloc_new]
  exact h
/-- what fits asks of the last sibling -/
theorem before_ok {w W : World} {gd gl D n k : Nat} {tv : Value} {tp : Int} {fd fl : Nat → Value} {l : List Ptr.Nd} (h : St w gd gl D n tv tp fd (fun j => if j = k then .int .i64 (-1) else fl j) W) (hfl : Lasts l k fl) (hk : k < n) (hR : Ptr.Rng l k) (ho : Ptr.openB l k = true) (hp : 0 ≤ Ptr.par l k ∨ tp = Ptr.lastC l (-1) k) :
    if Ptr.par l k < 0 then tp = Ptr.lastC l (Ptr.par l k) k else W.cell? ⟨gl, (Ptr.par l k).toNat, none⟩ = some (.int .i64 (Ptr.lastC l (Ptr.par l k) k)) := by
  have hr := Ptr.open_range hR ho
  by_cases e : Ptr.par l k < 0
  · rw [if_pos e]
    have e1 : Ptr.par l k = -1 := by omega
    rw [e1]
    exact hp.elim (fun h => by omega) id
  · rw [if_neg e, h.last.cell (i := (Ptr.par l k).toNat) (by omega), if_neg (by omega), hfl _ (by omega)]
    congr 4
    omega
theorem set_far {w : World} {b i g j : Nat} {u v : Value} (hg : b ≠ g) (h : w.cell? ⟨b, i, none⟩ = some v) : (w.setCell ⟨g, j, none⟩ u).cell? ⟨b, i, none⟩ = some v := by
  rw [World.cell?_of_block (w := w) (a := ⟨b, i, none⟩) (Below.heap_setCell _ _ _ _ hg)]
  exact h
theorem deps_next {l : List Ptr.Nd} {k : Nat} {fd g : Nat → Value} (h : Deps l k fd) (hk : g k = .int .i64 (Ptr.depN l k)) (ho : ∀ j, j ≠ k → g j = fd j) : Deps l (k + 1) g := by
  refine ⟨fun q hq => ?_, fun q hq => ?_⟩
  · by_cases e : q = k
    · subst e; exact hk
    · rw [ho q e]; exact h.1 q (by omega)
  · rw [ho q (by omega)]; exact h.2 q (by omega)
theorem lasts_next {l : List Ptr.Nd} {k : Nat} {fl : Nat → Value} (h : Lasts l k fl) (hR : Ptr.Rng l k) (hn : Ptr.par l k < 0 ∨ Ptr.kin l k = 3) : Lasts l (k + 1) (fun j => if j = k then .int .i64 (-1) else fl j) := fun q hq => by
  rw [Ptr.lastC_step, if_neg (fun e => hn.elim (fun h => by omega) (fun h => e.2 h))]
  dsimp only
  by_cases e : q = k
  · subst e
    rw [if_pos rfl, Ptr.lastC_low hR q q (Nat.le_refl _) (by omega)]
  · rw [if_neg e]
    exact h q (by omega)
theorem lasts_put {l : List Ptr.Nd} {k p : Nat} {fl : Nat → Value} (h : Lasts l k fl) (hR : Ptr.Rng l k) (hp : Ptr.par l k = p) (hk : Ptr.kin l k ≠ 3) : Lasts l (k + 1) (fun j => if j = p then .int .i64 k else if j = k then .int .i64 (-1) else fl j) := fun q hq => by
  rw [Ptr.lastC_step, hp]
  dsimp only
  by_cases e : q = p
  · subst e
    rw [if_pos rfl, if_pos ⟨rfl, hk⟩]
  · rw [if_neg e, if_neg (c := (p : Int) = (q : Int) ∧ Ptr.kin l k ≠ 3) (fun h => e (by have := h.1; omega))]
    by_cases e2 : q = k
    · subst e2
      rw [if_pos rfl, Ptr.lastC_low hR q q (Nat.le_refl _) (by omega)]
    · rw [if_neg e2]
      exact h q (by omega)
end Go.Proofs.YtkjodleggfacbaaDoor.Wtr
