/- The program's parser: Reset of a builder within a struct; flush. -/
import Derived.Test.YtlemdhfekdiaeaaGreatDoorParseM
import Derived.Deep.RegionHeld3
import Derived.Deep.RegionLaw
namespace Go.Proofs.YtlemdhfekdiaeaaGreatDoor.Wps
open Go Go.RowKit Go.Proofs.YtlemdhfekdiaeaaGreatDoor.Kb Go.Proofs.YtlemdhfekdiaeaaGreatDoor.Wch Go.Proofs.YtlemdhfekdiaeaaGreatDoor.Emk

/-- a node is put behind a row of nodes of the call's own, at a step of a region that draws its order -/
theorem step_append_nd {ops : Array Oper} {o : Oper} {a : Act} {w : World} {K : Act → World → Prop} {Q : Exit → Act → World → Prop} {E : Prop} (hgd : o.guard = none) (s x : Operand)
    (ho : o.op = .call { callee := .builtin .append, args := #[s, x], argTypes := #[23, 23] }) (base : Nat) (v : Value) (n : Nat) (l : List Ptr.Nd) (hs : a.eval s = v) (hown : w.ownsRow base 35 4 v n (Wtr.ndsC l)) (g : Nat) (y : Ptr.Nd)
    (hx : a.eval x = .slice (some ⟨g, 0, none⟩) 1 1) (hg : ∀ (j : Nat) u, (Wtr.ndC y)[j]? = some u → w.cell? ((⟨g, 0, none⟩ : Addr).add j) = some u) (hn : n ≤ 1000000) (hbase : base ≤ w.heap.size)
    (h : ∀ v' w', w'.ownsRow base 35 4 v' (n + 1) (Wtr.ndsC (l ++ [y])) → w.grownBy w' v.ownBlock → K (a.put o.dst v') w') : if Region.wanted o (yielded ops a.tmps) = true then Oper.wp Tryz.prog o a w K Q else E := by
  have hw : Region.wanted o (yielded ops a.tmps) = true := by simp [Region.wanted, hgd]
  rw [if_pos hw]
  obtain ⟨i0, hi, hz0, hz1, hz2⟩ := info_parts Wtr.infoN
  refine wp_append_own w s x _ ho base _ i0 (.agg #[.int .u8 0, .string ⟨#[]⟩, .string ⟨#[]⟩, .int .i64 0]) 4 48 Tryz.underlying23 hi hz0 hz1 hz2 rfl (by decide) v n _ hs hown ⟨g, 0, none⟩ 1 1 (Wtr.ndC y) hx rfl hg (fun u hu => Wtr.ndsC_one [y] u (by simpa [Wtr.ndsC] using hu)) (by unfold maxLen; omega) (by omega) hbase (fun v' w' h1 h2 _ => h v' w' ?_ h2)
  rw [Wtr.ndsC_append, show Wtr.ndsC [y] = Wtr.ndC y by simp [Wtr.ndsC]]
  exact h1
set_option maxRecDepth 100000 in
/-- Reset of a builder within a struct -/
theorem reset_any {T : TypeId} {pre post : List Value} {b : Nat} {w : World} (h : Emk.Left T pre post b w) :
    Calls Tryz.prog 107 #[.pointer (some ⟨b, pre.length, none⟩)] w fun e w' => e = .returned (.tuple #[]) ∧ w' = (w.setCell ⟨b, pre.length, none⟩ (.pointer none)).setCell ⟨b, pre.length + 1, none⟩ (.slice none 0 0) := by
  obtain ⟨p, v, hbk⟩ := h
  have c0 : w.cell? ⟨b, pre.length, none⟩ = some p := by rw [cell_of_row w b _ _ _ _ hbk]; simp
  have f0 : w.frozen? ⟨b, pre.length, none⟩ = false := Joins.unfrozen_of_block hbk _
  have hb2 : (w.setCell ⟨b, pre.length, none⟩ (.pointer none)).heap[b]? = some (.cells (pre ++ .pointer none :: v :: post).toArray T (0, 0)) := by rw [Joins.block_setCell hbk, set_first]
  have c1 : (w.setCell ⟨b, pre.length, none⟩ (.pointer none)).cell? ⟨b, pre.length + 1, none⟩ = some v := by rw [cell_of_row _ b _ _ _ _ hb2]; simp
  have f1 : (w.setCell ⟨b, pre.length, none⟩ (.pointer none)).frozen? ⟨b, pre.length + 1, none⟩ = false := Joins.unfrozen_of_block hb2 _
  clear hbk hb2
  go_enter Tryz.func107, Tryz.ntmps107
  go_wp2
  go_end0
  exact ⟨rfl, rfl⟩
theorem flush_none {st : Ppa.St} (p : Int) (h : st.text = []) : Ppa.flush st p = st := by unfold Ppa.flush; rw [if_pos h]
theorem flush_some {st : Ppa.St} (p : Int) (h : ¬ st.text = []) : Ppa.flush st p = { st with nodes := st.nodes ++ [(4, [], st.text, p)], text := [] } := by unfold Ppa.flush; rw [if_neg h]
theorem px_left {B b k : Nat} {s : ByteArray} {st : Ppa.St} {w : World} {A : Option Addr} {c : Nat} {p v : Value} (h : Px B b s st k A c p v w) : Emk.Left 45 (preS s k (.slice A st.nodes.length c)) (postS st) b w := ⟨p, v, h.blk⟩
/-- the nodes' row keeps while the builder's own block and rows of bytes turn -/
theorem nds_kept {B n : Nat} {w w' : World} {v : Value} {xs : List Value} {b : Nat} (h : w.ownsRow B 35 4 v n xs) (hn : v.ownBlock ≠ some b) (hk : Lib.OthersKept 5 (some b) w w') : w'.ownsRow B 35 4 v n xs := by
  refine ⟨h.1, ?_⟩
  rcases h.2 with h0 | ⟨g, cap, cur, rfl, hb, hg, h1, h2, h3, h4⟩
  · exact .inl h0
  · refine .inr ⟨g, cap, cur, rfl, hb, hk g _ hg (fun e => hn (by rw [← e]; rfl)) (fun c fz e => ?_), h1, h2, h3, h4⟩
    injection e with _ e _
    exact absurd e (by decide)
/-- a node more: the slice is stored into the parser -/
theorem left_push {b k : Nat} {s : ByteArray} {nv nv' : Value} {post : List Value} {w w' : World} (h : Emk.Left 45 (preS s k nv) post b w) (hg : w.grownBy w' nv.ownBlock) (hn : nv.ownBlock ≠ some b) (hlt : b < w.heap.size) :
    Emk.Left 45 (preS s k nv') post b (w'.setCell ⟨b, 2, none⟩ nv') ∧ w'.cell? ⟨b, 2, none⟩ = some nv ∧ w'.frozen? ⟨b, 2, none⟩ = false := by
  obtain ⟨p, v, hb⟩ := h
  have hb2 := (hg.block b hlt (fun e => hn e.symm)).trans hb
  refine ⟨⟨p, v, ?_⟩, ?_, Joins.unfrozen_of_block hb2 _⟩
  · rw [Joins.block_setCell hb2]
    rfl
  · rw [cell_of_row w' b _ _ _ _ hb2]
    rfl
theorem left_cell {b k : Nat} {s : ByteArray} {nv : Value} {post : List Value} {w : World} (h : Emk.Left 45 (preS s k nv) post b w) : w.cell? ⟨b, 2, none⟩ = some nv := by
  obtain ⟨p, v, hb⟩ := h
  rw [cell_of_row w b _ _ _ _ hb]
  rfl
theorem left_below {T : TypeId} {pre post : List Value} {b : Nat} {w w' : World} (h : Emk.Left T pre post b w) (hb : Below w.heap.size w w') : Emk.Left T pre post b w' := by
  obtain ⟨p, v, h1⟩ := h
  exact ⟨p, v, (hb.block b (Array.getElem?_eq_some_iff.1 h1).1).trans h1⟩
theorem left_reset {B b k : Nat} {s : ByteArray} {st : Ppa.St} {A : Option Addr} {c : Nat} {w : World} (h : Emk.Left 45 (preS s k (.slice A st.nodes.length c)) (postS st) b w) (ht : st.text = []) (hN : w.ownsRow B 35 4 (.slice A st.nodes.length c) st.nodes.length (Wtr.ndsC st.nodes)) :
    Px B b s st k A c (.pointer none) (.slice none 0 0) ((w.setCell ⟨b, 3, none⟩ (.pointer none)).setCell ⟨b, 4, none⟩ (.slice none 0 0)) := by
  obtain ⟨p, v, hb⟩ := h
  have hne := nodes_ne hb (by decide) hN
  have h1 : (w.setCell ⟨b, 3, none⟩ (.pointer none)).heap[b]? = some (.cells #[.string s, .int .i64 (k : Int), .slice A st.nodes.length c, .pointer none, v, .int .i64 st.twice, .int .i64 st.deep] 45 (0, 0)) := by
    rw [Joins.block_setCell hb]
    rfl
  refine ⟨.inl rfl, ?_, ?_, Flt.own_other (Flt.own_other hN hne) hne⟩
  · rw [Joins.block_setCell h1]
    rfl
  · rw [ht]
    exact World.ownsRow_nil _ _ _ _
theorem flush_done {B b : Nat} {s : ByteArray} {st : Ppa.St} {r : Ppa.Bs} {w w7 : World} {A7 : Option Addr} {c7 : Nat} {y : Ptr.Nd} (h : Ps B b s st r w) (hl : Emk.Left 45 (preS s (s.size - r.length) (.slice A7 (st.nodes.length + 1) c7)) (postS st) b (w7.setCell ⟨b, 2, none⟩ (.slice A7 (st.nodes.length + 1) c7)))
    (ho : w7.ownsRow B 35 4 (.slice A7 (st.nodes.length + 1) c7) (st.nodes.length + 1) (Wtr.ndsC (st.nodes ++ [y]))) (hb : Below B w (w7.setCell ⟨b, 2, none⟩ (.slice A7 (st.nodes.length + 1) c7))) :
    Ps B b s { st with nodes := st.nodes ++ [y], text := [] } r (((w7.setCell ⟨b, 2, none⟩ (.slice A7 (st.nodes.length + 1) c7)).setCell ⟨b, 3, none⟩ (.pointer none)).setCell ⟨b, 4, none⟩ (.slice none 0 0)) := by
  have hne : (Value.slice A7 (st.nodes.length + 1) c7).ownBlock ≠ some b := by
    obtain ⟨p, v, h1⟩ := hl
    intro e
    obtain ⟨g, rfl⟩ : ∃ g, A7 = some g := by cases A7 with | none => cases e | some g => exact ⟨g, rfl⟩
    rcases ho.2 with ⟨h0, _⟩ | ⟨g', cap, cur, hv, _, hg, _⟩
    · cases h0
    · injection hv with hA _ _
      injection hA with hA
      subst hA
      have e : g' = b := by simpa [Value.ownBlock] using e
      subst e
      rw [Joins.block_setCell hg] at h1
      injection h1 with h1
      injection h1 with _ h1 _
      exact absurd h1 (by decide)
  have hlen : (st.nodes ++ [y]).length = st.nodes.length + 1 := by simp
  have hX : Px B b s { st with nodes := st.nodes ++ [y], text := [] } (s.size - r.length) A7 c7 (.pointer none) (.slice none 0 0) (((w7.setCell ⟨b, 2, none⟩ (.slice A7 (st.nodes.length + 1) c7)).setCell ⟨b, 3, none⟩ (.pointer none)).setCell ⟨b, 4, none⟩ (.slice none 0 0)) := by
    have ho2 := Flt.own_other (i := 2) (u := .slice A7 (st.nodes.length + 1) c7) ho hne
    rw [← hlen] at ho2 hl
    have h3 := left_reset (st := { st with nodes := st.nodes ++ [y], text := [] }) hl rfl ho2
    rw [hlen] at h3
    exact h3
  exact hX.ps h.suf (h.ev.below ((hb.setCell (p := ⟨b, 3, none⟩) h.le _).setCell (p := ⟨b, 4, none⟩) h.le _)) h.le h.small
/-- a block of nodes that is neither the parser's nor its row's -/
def NdKept (b : Nat) (nv : Value) (w w' : World) : Prop := ∀ (g : Nat) (o : Array Value), g ≠ b → w.heap[g]? = some (.cells o 35 (0, 0)) → nv.ownBlock ≠ some g → w'.heap[g]? = some (.cells o 35 (0, 0))
theorem nd_after {b g : Nat} {nv u2 u3 u4 : Value} {w w3 w7 : World} {ob : Obj} {o : Array Value} (hk : Lib.OthersKept 5 (some b) w w3) (hg7 : (w3.alloc ob).grownBy w7 nv.ownBlock) (hgb : g ≠ b) (hg : w.heap[g]? = some (.cells o 35 (0, 0))) (hn : nv.ownBlock ≠ some g) :
    (((w7.setCell ⟨b, 2, none⟩ u2).setCell ⟨b, 3, none⟩ u3).setCell ⟨b, 4, none⟩ u4).heap[g]? = some (.cells o 35 (0, 0)) := by
  have h3 := hk g _ hg (fun e => hgb (by injection e)) (fun c fz e => by injection e with _ e _; exact absurd e (by decide))
  have hl3 : g < w3.heap.size := (Array.getElem?_eq_some_iff.1 h3).1
  rw [Below.heap_setCell _ _ _ _ hgb, Below.heap_setCell _ _ _ _ hgb, Below.heap_setCell _ _ _ _ hgb, hg7.block g (by simp; omega) (fun e => hn e.symm), Lib.alloc_old w3 _ g hl3]
  exact h3
set_option maxRecDepth 100000 in
set_option maxHeartbeats 2000000 in
/-- flush; a block of nodes that is none of the parser's stays -/
theorem flush_x {B b : Nat} {s : ByteArray} {st : Ppa.St} {r : Ppa.Bs} {w : World} {A : Option Addr} {c : Nat} {q v : Value} (p : Int) (h : Ps B b s st r w) (X : Px B b s st (s.size - r.length) A c q v w) (h1 : st.nodes.length ≤ 1000000) (h2 : st.text.length ≤ 1000000) :
    Calls Tryz.prog 72 #[.pointer (some ⟨b, 0, none⟩), .int .i64 p] w fun e w' => e = .returned (.tuple #[]) ∧ Ps B b s (Ppa.flush st p) r w' ∧ Bel B b w w' ∧ NdKept b (.slice A st.nodes.length c) w w' := by
  have hlen := len_any X.is
  by_cases h0 : st.text = []
  · rw [flush_none p h0]
    have hz : (st.text.length : Int) = 0 := by rw [h0]; rfl
    rw [hz] at hlen
    have CL := Kept.mk hlen
    clear hlen hz h0 X
    go_enter Tryz.func72, Tryz.ntmps72
    go_wp2_with (go_at_call 30; refine CL.out.mono ?_; rintro e w1 ⟨rfl, rfl⟩)
    go_end0
    exact ⟨rfl, h, Bel.refl _ _ _, fun _ _ _ h _ => h⟩
  · rw [flush_some p h0]
    have hpos := List.length_pos_iff.2 h0
    have CL := Kept.mk hlen
    have CS := Kept.mk (string_any h.le (w := w.drew) X.is)
    have hb := X.lt
    have hBs : B ≤ w.heap.size := h.hB
    have hnn := X.ndsn
    have d2 : w.drew.cell? ⟨b, 2, none⟩ = some (.slice A st.nodes.length c) := X.c2
    have HN := Kept.mk X.nds
    have HL := Kept.mk (px_left X)
    have i0 : (0 : Int) < (st.text.length : Int) := by omega
    have HH := Kept.mk h
    clear hlen h0 X h
    go_enter Tryz.func72, Tryz.ntmps72
    go_wp2_with (go_at_call 30; refine CL.out.mono ?_; rintro e w1 ⟨rfl, rfl⟩)
    go_region_law (first
      | (go_simp; go_at_call 31; refine CS.out.mono ?_; rintro e w3 ⟨rfl, hl3, hb3, hk3⟩; have d3 := left_cell hl3; have HB3 := Kept.mk (((Bel.refl B b w1).drew).trans (Bel.others hb3 hk3)); have HO3 := Kept.mk (nds_kept HN.out hnn hk3); have HL3 := Kept.mk hl3; have HK3 := Kept.mk hk3; have hz3 : w1.heap.size ≤ w3.heap.size := hb3.size; have hb9 : b < w3.heap.size := (by omega); clear hl3 hb3 hk3)
      | (refine step_append_nd rfl (.tmp 13) (.tmp 20) rfl B (.slice A st.nodes.length c) st.nodes.length st.nodes (by rfl) (Flt.own_below HO3.out ((Below.refl _ w3).alloc (Nat.le_refl _) (.cells #[.int .u8 4, .string ⟨#[]⟩, .string ⟨st.text.toArray⟩, .int .i64 p] 35))) w3.heap.size (4, [], st.text, p) (by rfl) (World.news_of_block (heap_alloc_new _ _)) (by omega) (by simp; omega) ?_; intro v7 w7 ho7 hg7; obtain ⟨A7, c7, rfl, _⟩ := Flt.own_slice ho7; obtain ⟨hl7, e2, f2⟩ := left_push (nv' := .slice A7 (st.nodes.length + 1) c7) (left_below HL3.out ((Below.refl _ w3).alloc (Nat.le_refl _) (.cells #[.int .u8 4, .string ⟨#[]⟩, .string ⟨st.text.toArray⟩, .int .i64 p] 35))) hg7 hnn (by simp; omega); have HL7 := Kept.mk hl7; have HO7 := Kept.mk ho7; have HG7 := Kept.mk hg7; have HB7 := Kept.mk ((HB3.out.alloc (Nat.le_trans hBs hz3) (.cells #[.int .u8 4, .string ⟨#[]⟩, .string ⟨st.text.toArray⟩, .int .i64 p] 35)).trans (Bel.nodes hg7 (by simp; omega) (Flt.own_below HO3.out ((Below.refl _ w3).alloc (Nat.le_refl _) (.cells #[.int .u8 4, .string ⟨#[]⟩, .string ⟨st.text.toArray⟩, .int .i64 p] 35))))); clear hl7 ho7 hg7))
    all_goals
      go_wp2_with (go_at_call 107; refine (reset_any HL7.out).mono ?_; rintro e w8 ⟨rfl, rfl⟩)
      go_end0
      have H7 := flush_done HH.out HL7.out HO7.out
      exact ⟨rfl, H7 (HB7.out.setCell (p := ⟨b, 2, none⟩) HH.out.le _).lo, (((HB7.out.setCell (p := ⟨b, 2, none⟩) HH.out.le _).setCell (p := ⟨b, 3, none⟩) HH.out.le _).setCell (p := ⟨b, 4, none⟩) HH.out.le _), fun g o hgb hg hn => nd_after HK3.out HG7.out hgb hg hn⟩
theorem flush_s {B b : Nat} {s : ByteArray} {st : Ppa.St} {r : Ppa.Bs} {w : World} (p : Int) (h : Ps B b s st r w) (h1 : st.nodes.length ≤ 1000000) (h2 : st.text.length ≤ 1000000) :
    Calls Tryz.prog 72 #[.pointer (some ⟨b, 0, none⟩), .int .i64 p] w fun e w' => e = .returned (.tuple #[]) ∧ Ps B b s (Ppa.flush st p) r w' ∧ Bel B b w w' := by
  obtain ⟨A, c, q, v, X⟩ := h.px
  exact (flush_x p h X h1 h2).mono fun e w' ⟨he, hp, hb, _⟩ => ⟨he, hp, hb⟩
end Go.Proofs.YtlemdhfekdiaeaaGreatDoor.Wps
