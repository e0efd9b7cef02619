/- The program's parser: add. -/
import Derived.Test.YtlemdhfekdiaeaaGreatDoorParseN
namespace Go.Proofs.YtlemdhfekdiaeaaGreatDoor.Wps
open Go Go.RowKit Go.Proofs.YtlemdhfekdiaeaaGreatDoor.Kb Go.Proofs.YtlemdhfekdiaeaaGreatDoor.Wch Go.Proofs.YtlemdhfekdiaeaaGreatDoor.Emk

def ndV (k : Int) (nm vl : Ppa.Bs) (p : Int) : Value := .agg #[.int .u8 k, .string ⟨nm.toArray⟩, .string ⟨vl.toArray⟩, .int .i64 p]
theorem own_ne_cells {w : World} {B n b : Nat} {nv : Value} {xs : List Value} {cs : Array Value} {T : TypeId} (hT : T ≠ 35) (ho : w.ownsRow B 35 4 nv n xs) (hb : w.heap[b]? = some (.cells cs T (0, 0))) : nv.ownBlock ≠ some b := nodes_ne hb hT ho
/-- a node more -/
theorem push_done {B b g : Nat} {s : ByteArray} {st : Ppa.St} {r : Ppa.Bs} {w w7 : World} {A A7 : Option Addr} {c c7 : Nat} {q v : Value} {y : Ptr.Nd} (h : Ps B b s st r w) (X : Px B b s st (s.size - r.length) A c q v w) (hg : w.grownBy w7 (Value.slice A st.nodes.length c).ownBlock)
    (ho : w7.ownsRow B 35 4 (.slice A7 (st.nodes.length + 1) c7) (st.nodes.length + 1) (Wtr.ndsC (st.nodes ++ [y]))) (hgv : v.ownBlock = none ∨ (v.ownBlock = some g ∧ (Value.slice A st.nodes.length c).ownBlock ≠ some g)) :
    Ps B b s { st with nodes := st.nodes ++ [y] } r (w7.setCell ⟨b, 2, none⟩ (.slice A7 (st.nodes.length + 1) c7)) := by
  have hb7 := (hg.block b X.lt (fun e => X.ndsn e.symm)).trans X.blk
  have hne := nodes_ne hb7 (by decide) ho
  have hbuf : w7.ownsRow B 5 1 v st.text.length (Lib.byteCells st.text) := X.buf.kept hg (by
    rcases hgv with e | ⟨e, e2⟩
    · exact .inl e
    · exact .inr (by rw [e]; exact fun e3 => e2 e3.symm))
  have hlen : (st.nodes ++ [y]).length = st.nodes.length + 1 := by simp
  have hX : Px B b s { st with nodes := st.nodes ++ [y] } (s.size - r.length) A7 c7 q v (w7.setCell ⟨b, 2, none⟩ (.slice A7 (st.nodes.length + 1) c7)) := by
    refine ⟨X.known, ?_, Flt.own_other hbuf (own_block_ne hb7 (by decide) hbuf), ?_⟩
    · rw [Joins.block_setCell hb7]
      show _ = some (Obj.cells #[.string s, .int .i64 _, .slice A7 (st.nodes ++ [y]).length c7, q, v, _, _] _ _)
      rw [hlen]
      rfl
    · show World.ownsRow _ B _ 4 (.slice A7 (st.nodes ++ [y]).length c7) (st.nodes ++ [y]).length _
      rw [hlen]
      exact Flt.own_other ho hne
  refine hX.ps h.suf (h.ev.below ((Below.grown (Below.refl B w) hg h.hB (fun k hk => (X.nds.lt k hk).1)).setCell (p := ⟨b, 2, none⟩) h.le _)) h.le h.small
/-- the two rows lie apart -/
theorem Px.apart {B b k : Nat} {s : ByteArray} {st : Ppa.St} {w : World} {A : Option Addr} {c : Nat} {p v : Value} (h : Px B b s st k A c p v w) : v.ownBlock = none ∨ ∃ g, v.ownBlock = some g ∧ (Value.slice A st.nodes.length c).ownBlock ≠ some g := by
  cases hv : v.ownBlock with
  | none => exact .inl rfl
  | some g =>
    refine .inr ⟨g, rfl, ?_⟩
    rcases h.buf.2 with ⟨rfl, _⟩ | ⟨g2, cap, cur, rfl, _, hg, _⟩
    · cases hv
    · have e : g2 = g := by simpa [Value.ownBlock] using hv
      subst e
      exact nodes_ne hg (by decide) h.nds
theorem pushed {B b : Nat} {s : ByteArray} {st : Ppa.St} {r : Ppa.Bs} {w w7 : World} {A A7 : Option Addr} {c c7 : Nat} {q v : Value} {y : Ptr.Nd} (h : Ps B b s st r w) (X : Px B b s st (s.size - r.length) A c q v w) (hg : w.grownBy w7 (Value.slice A st.nodes.length c).ownBlock)
    (ho : w7.ownsRow B 35 4 (.slice A7 (st.nodes.length + 1) c7) (st.nodes.length + 1) (Wtr.ndsC (st.nodes ++ [y]))) : Ps B b s { st with nodes := st.nodes ++ [y] } r (w7.setCell ⟨b, 2, none⟩ (.slice A7 (st.nodes.length + 1) c7)) := by
  rcases X.apart with e | ⟨g, e⟩
  · exact push_done (g := 0) h X hg ho (.inl e)
  · exact push_done h X hg ho (.inr e)
theorem add_attr {st : Ppa.St} {nm vl : Ppa.Bs} {p : Int} : Ppa.add st (3, nm, vl, p) = { st with nodes := st.nodes ++ [(3, nm, vl, p)] } := rfl
theorem add_other {st : Ppa.St} {k : Nat} {nm vl : Ppa.Bs} {p : Int} (hk : k ≠ 3) : Ppa.add st (k, nm, vl, p) = { Ppa.flush st p with nodes := (Ppa.flush st p).nodes ++ [(k, nm, vl, p)] } := by
  unfold Ppa.add
  rw [if_neg hk]
theorem ret_int {a b : Int} (h : a = b) : Ending.returned (.int .i64 a) = .returned (.int .i64 b) := by rw [h]
theorem box_cells (w : World) (k p : Int) (nm vl : Ppa.Bs) (T : TypeId) : ∀ i x, (#[.int .u8 k, .string ⟨nm.toArray⟩, .string ⟨vl.toArray⟩, .int .i64 p] : Array Value)[i]? = some x → (w.alloc (.cells #[.int .u8 k, .string ⟨nm.toArray⟩, .string ⟨vl.toArray⟩, .int .i64 p] T)).cell? ⟨w.heap.size, i, none⟩ = some x := by
  intro i x h
  rw [World.cell?_alloc_new]
  exact h
theorem alloc_grown {w w7 : World} {o : Obj} {row : Option Nat} (h : (w.drew.alloc o).grownBy w7 row) : w.grownBy w7 row :=
  (grown_of_below (((Below.refl _ w).drew).alloc (Nat.le_refl _) o) row).trans h
set_option maxRecDepth 100000 in
set_option maxHeartbeats 2000000 in
theorem add_s3 {B b : Nat} {s : ByteArray} {st : Ppa.St} {r : Ppa.Bs} {w : World} (nm vl : Ppa.Bs) (p : Int) (h : Ps B b s st r w) (h1 : st.nodes.length ≤ 1000000) :
    Calls Tryz.prog 35 #[.pointer (some ⟨b, 0, none⟩), ndV 3 nm vl p] w fun e w' => e = .returned (.int .i64 (st.nodes.length : Int)) ∧ Ps B b s (Ppa.add st (3, nm, vl, p)) r w' ∧ Bel B b w w' := by
  have hb1 : Below w.heap.size w (w.alloc (.cells #[.int .u8 3, .string ⟨nm.toArray⟩, .string ⟨vl.toArray⟩, .int .i64 p] 35)) := (Below.refl _ _).alloc (Nat.le_refl _) _
  have hs := h.below hb1
  obtain ⟨A, c, q, v, X⟩ := hs.px
  have HB := Kept.mk (Bel.of (b := b) hb1 h.hB)
  rw [add_attr]
  unfold ndV
  have hc := box_cells w 3 p nm vl 35
  have hlg : w.heap.size < (w.alloc (.cells #[.int .u8 3, .string ⟨nm.toArray⟩, .string ⟨vl.toArray⟩, .int .i64 p] 35)).heap.size := by simp
  clear h hb1
  go_enter Tryz.func35, Tryz.ntmps35
  go_wp2
  generalize w.alloc (.cells #[.int .u8 3, .string ⟨nm.toArray⟩, .string ⟨vl.toArray⟩, .int .i64 p] 35) = W at *
  have n0 := hc 0 _ rfl
  have n1 := hc 1 _ rfl
  have n2 := hc 2 _ rfl
  have n3 := hc 3 _ rfl
  have d2 := X.c2
  have hlt := X.lt
  have hBW := hs.hB
  have HS := Kept.mk hs
  have HX := Kept.mk X
  have HN := Kept.mk X.nds
  clear hc X hs
  go_region_law (refine step_append_nd rfl (.tmp 16) (.tmp 18) rfl B (.slice A (st).nodes.length c) (st).nodes.length (st).nodes (by rfl) (Flt.own_below HN.out (((Below.refl _ W).drew).alloc (Nat.le_refl _) (.cells #[.int .u8 3, .string ⟨nm.toArray⟩, .string ⟨vl.toArray⟩, .int .i64 p] 35))) W.heap.size (3, nm, vl, p) (by rfl) (World.news_of_block (heap_alloc_new _ _)) (by omega) (by simp; omega) ?_; intro v7 w7 ho7 hg7; obtain ⟨A7, c7, rfl, _⟩ := Flt.own_slice ho7; have hg8 := alloc_grown hg7; have hb7 := (hg8.block b hlt (fun e => HX.out.ndsn e.symm)).trans HX.out.blk; have e2 : w7.cell? ⟨b, 2, none⟩ = some (.slice A (st).nodes.length c) := (by rw [cell_of_row w7 b _ _ _ _ hb7]; rfl); have f2 : w7.frozen? ⟨b, 2, none⟩ = false := Joins.unfrozen_of_block hb7 _; have HP := Kept.mk (pushed HS.out HX.out hg8 ho7); have HG := Kept.mk (Bel.nodes (b := b) hg8 HS.out.hB HN.out); clear ho7 hg7 hg8 hb7)
  all_goals
    have HC := Kept.mk HP.out
    obtain ⟨A8, c8, q8, v8, X8⟩ := HP.out.px
    have d8 := X8.c2
    have hz8 : ({ st with nodes := st.nodes ++ [(3, nm, vl, p)] } : Ppa.St).nodes.length = st.nodes.length + 1 := by simp
    rw [hz8] at d8
    clear X8 hz8
    go_wp2
    go_ret
    exact ⟨ret_int (by omega), HP.out, HB.out.trans (HG.out.setCell (p := ⟨b, 2, none⟩) HS.out.le _)⟩
theorem flush_len (st : Ppa.St) (p : Int) : (Ppa.flush st p).nodes.length ≤ st.nodes.length + 1 := by
  unfold Ppa.flush
  split <;> simp
set_option maxRecDepth 100000 in
set_option maxHeartbeats 2000000 in
theorem add_sk {B b : Nat} {s : ByteArray} {st : Ppa.St} {r : Ppa.Bs} {w : World} (k : Nat) (hk : k ≠ 3) (nm vl : Ppa.Bs) (p : Int) (h : Ps B b s st r w) (h1 : st.nodes.length ≤ 900000) (h2 : st.text.length ≤ 1000000) :
    Calls Tryz.prog 35 #[.pointer (some ⟨b, 0, none⟩), ndV (k : Int) nm vl p] w fun e w' => e = .returned (.int .i64 ((Ppa.flush st p).nodes.length : Int)) ∧ Ps B b s (Ppa.add st (k, nm, vl, p)) r w' ∧ Bel B b w w' := by
  have hb1 : Below w.heap.size w (w.alloc (.cells #[.int .u8 (k : Int), .string ⟨nm.toArray⟩, .string ⟨vl.toArray⟩, .int .i64 p] 35)) := (Below.refl _ _).alloc (Nat.le_refl _) _
  have hs := h.below hb1
  obtain ⟨A, c, q, v, X0⟩ := h.px
  have HB := Kept.mk (Bel.of (b := b) hb1 h.hB)
  have hngb : w.heap.size ≠ b := by have := X0.lt; omega
  have hno : (Value.slice A st.nodes.length c).ownBlock ≠ some w.heap.size := fun e => by have := (X0.nds.lt _ e).2; omega
  have CF := Kept.mk (flush_x p hs (X0.below hb1) (by omega) h2)
  have hfl := flush_len st p
  have hgk : (w.alloc (.cells #[.int .u8 (k : Int), .string ⟨nm.toArray⟩, .string ⟨vl.toArray⟩, .int .i64 p] 35)).heap[w.heap.size]? = some (.cells #[.int .u8 (k : Int), .string ⟨nm.toArray⟩, .string ⟨vl.toArray⟩, .int .i64 p] 35) := heap_alloc_new _ _
  rw [add_other hk]
  unfold ndV
  have e3 : ((k : Int) != 3) = true := by simp; omega
  have e3' : ¬ (k : Int) = 3 := by omega
  have HK := Kept.mk hgk
  have hc := box_cells w k p nm vl 35
  have k0 := hc 0 _ rfl
  have k3 := hc 3 _ rfl
  have hlg : w.heap.size < (w.alloc (.cells #[.int .u8 (k : Int), .string ⟨nm.toArray⟩, .string ⟨vl.toArray⟩, .int .i64 p] 35)).heap.size := by simp
  clear h hb1 hs X0 hgk hc
  go_enter Tryz.func35, Tryz.ntmps35
  go_wp2_with (go_at_call 72; refine CF.out.mono ?_; rintro e W ⟨rfl, hs, hbF, hkF⟩; have HBF := Kept.mk hbF; have hg := hkF w.heap.size _ hngb HK.out hno; have hlW := (Array.getElem?_eq_some_iff.1 hg).1; have n0 : W.cell? ⟨w.heap.size, 0, none⟩ = some (.int .u8 (k : Int)) := (by rw [cell_of_row W _ _ _ _ _ hg]; rfl); have n1 : W.cell? ⟨w.heap.size, 1, none⟩ = some (.string ⟨nm.toArray⟩) := (by rw [cell_of_row W _ _ _ _ _ hg]; rfl); have n2 : W.cell? ⟨w.heap.size, 2, none⟩ = some (.string ⟨vl.toArray⟩) := (by rw [cell_of_row W _ _ _ _ _ hg]; rfl); have n3 : W.cell? ⟨w.heap.size, 3, none⟩ = some (.int .i64 p) := (by rw [cell_of_row W _ _ _ _ _ hg]; rfl); clear hbF hkF hg; obtain ⟨A, c, q, v, X⟩ := hs.px; have d2 := X.c2; have hlt := X.lt; have hBW := hs.hB; have HS := Kept.mk hs; have HX := Kept.mk X; have HN := Kept.mk X.nds; clear X hs)
  go_region_law (refine step_append_nd rfl (.tmp 16) (.tmp 18) rfl B (.slice A (Ppa.flush st p).nodes.length c) (Ppa.flush st p).nodes.length (Ppa.flush st p).nodes (by rfl) (Flt.own_below HN.out (((Below.refl _ W).drew).alloc (Nat.le_refl _) (.cells #[.int .u8 (k : Int), .string ⟨nm.toArray⟩, .string ⟨vl.toArray⟩, .int .i64 p] 35))) W.heap.size (k, nm, vl, p) (by rfl) (World.news_of_block (heap_alloc_new _ _)) (by omega) (by simp; omega) ?_; intro v7 w7 ho7 hg7; obtain ⟨A7, c7, rfl, _⟩ := Flt.own_slice ho7; have hg8 := alloc_grown hg7; have hb7 := (hg8.block b hlt (fun e => HX.out.ndsn e.symm)).trans HX.out.blk; have e2 : w7.cell? ⟨b, 2, none⟩ = some (.slice A (Ppa.flush st p).nodes.length c) := (by rw [cell_of_row w7 b _ _ _ _ hb7]; rfl); have f2 : w7.frozen? ⟨b, 2, none⟩ = false := Joins.unfrozen_of_block hb7 _; have HP := Kept.mk (pushed HS.out HX.out hg8 ho7); have HG := Kept.mk (Bel.nodes (b := b) hg8 HS.out.hB HN.out); clear ho7 hg7 hg8 hb7)
  all_goals
    have HC := Kept.mk HP.out
    obtain ⟨A8, c8, q8, v8, X8⟩ := HP.out.px
    have d8 := X8.c2
    have hz8 : ({ Ppa.flush st p with nodes := (Ppa.flush st p).nodes ++ [(k, nm, vl, p)] } : Ppa.St).nodes.length = (Ppa.flush st p).nodes.length + 1 := by simp
    rw [hz8] at d8
    clear X8 hz8
    go_wp2
    go_ret
    exact ⟨ret_int (by omega), HP.out, (HB.out.trans HBF.out).trans (HG.out.setCell (p := ⟨b, 2, none⟩) HS.out.le _)⟩
end Go.Proofs.YtlemdhfekdiaeaaGreatDoor.Wps
