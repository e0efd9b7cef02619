/- The program's parser with its nodes and its text: what its structural functions keep; the ways of reading said over it. -/
import Derived.Test.YtlemdhfekdiaeaaGreatDoorParseI
import Derived.Test.YtlemdhfekdiaeaaGreatDoorNodeKit
namespace Go.Proofs.YtlemdhfekdiaeaaGreatDoor.Wps
open Go Go.RowKit Go.Proofs.YtlemdhfekdiaeaaGreatDoor.Kb Go.Proofs.YtlemdhfekdiaeaaGreatDoor.Wch Go.Proofs.YtlemdhfekdiaeaaGreatDoor.Emk

abbrev preS (s : ByteArray) (k : Nat) (nv : Value) : List Value := [.string s, .int .i64 (k : Int), nv]
abbrev postS (st : Ppa.St) : List Value := [.int .i64 st.twice, .int .i64 st.deep]
/-- what stands below B is as it was, and so is each block but the parser's that holds neither bytes nor nodes -/
structure Bel (B b : Nat) (w w' : World) : Prop where
  lo : Below B w w'
  far : ∀ (g : Nat) (cs : Array Value) (T : TypeId), g ≠ b → T ≠ 5 → T ≠ 35 → w.heap[g]? = some (.cells cs T (0, 0)) → w'.heap[g]? = some (.cells cs T (0, 0))
section
variable {B b : Nat} {w w1 w2 : World}
theorem Bel.refl (B b : Nat) (w : World) : Bel B b w w := ⟨Below.refl _ _, fun _ _ _ _ _ _ h => h⟩
theorem Bel.trans (h : Bel B b w w1) (k : Bel B b w1 w2) : Bel B b w w2 := ⟨h.lo.trans k.lo, fun g cs T h1 h2 h3 h4 => k.far g cs T h1 h2 h3 (h.far g cs T h1 h2 h3 h4)⟩
theorem Bel.of (h : Below w.heap.size w w1) (hB : B ≤ w.heap.size) : Bel B b w w1 := ⟨h.mono hB, fun g _ _ _ _ _ h4 => (h.block g (Array.getElem?_eq_some_iff.1 h4).1).trans h4⟩
theorem Bel.drew (h : Bel B b w w1) : Bel B b w w1.drew := ⟨h.lo.drew, h.far⟩
theorem Bel.alloc (h : Bel B b w w1) (hB : B ≤ w1.heap.size) (o : Obj) : Bel B b w (w1.alloc o) := ⟨h.lo.alloc hB o, fun g cs T h1 h2 h3 h4 => by
  have h5 := h.far g cs T h1 h2 h3 h4
  exact (Lib.alloc_old w1 o g (Array.getElem?_eq_some_iff.1 h5).1).trans h5⟩
theorem Bel.setCell {p : Addr} (h : Bel B b w w1) (hp : B ≤ p.block) (u : Value) (hb : p.block = b := by rfl) : Bel B b w (w1.setCell p u) := ⟨h.lo.setCell hp u, fun g cs T h1 h2 h3 h4 => (Below.heap_setCell _ _ _ _ (by rw [hb]; exact h1)).trans (h.far g cs T h1 h2 h3 h4)⟩
theorem Bel.setNd {q : Nat} {cs0 : Array Value} (h : Bel B b w w1) (hp : B ≤ q) (hq : w1.heap[q]? = some (.cells cs0 35 (0, 0))) (i : Nat) (u : Value) : Bel B b w (w1.setCell ⟨q, i, none⟩ u) := ⟨h.lo.setCell (p := ⟨q, i, none⟩) hp u, fun g cs T h1 h2 h3 h4 => by
  have h5 := h.far g cs T h1 h2 h3 h4
  refine (Below.heap_setCell _ _ _ _ (fun e => ?_)).trans h5
  subst e
  rw [hq] at h5
  injection h5 with h5
  injection h5 with _ h5 _
  exact h3 h5.symm⟩
theorem Bel.grownB (hg : w.grownBy w1 (some b)) (hB : B ≤ w.heap.size) (hb : B ≤ b) : Bel B b w w1 := ⟨Below.grown (Below.refl _ _) hg hB (fun k hk => by cases hk; exact hb), fun g _ _ h1 _ _ h4 => (hg.block g (Array.getElem?_eq_some_iff.1 h4).1 (by intro e; injection e with e; exact h1 e)).trans h4⟩
theorem Bel.others (h : Below B w w1) (hk : Lib.OthersKept 5 (some b) w w1) : Bel B b w w1 := ⟨h, fun g _ _ h1 h2 _ h4 => hk g _ h4 (by intro e; injection e with e; exact h1 e) (fun c fz e => by injection e with _ e _; exact h2 e)⟩
theorem Bel.nodes {n : Nat} {v : Value} {xs : List Value} (hg : w.grownBy w1 v.ownBlock) (hB : B ≤ w.heap.size) (ho : w.ownsRow B 35 4 v n xs) : Bel B b w w1 := ⟨Below.grown (Below.refl _ _) hg hB (fun k hk => (ho.lt k hk).1), fun g cs T _ _ h3 h4 => by
  refine (hg.block g (Array.getElem?_eq_some_iff.1 h4).1 (fun e => ?_)).trans h4
  rcases ho.2 with ⟨rfl, _⟩ | ⟨g2, cap, cur, rfl, _, hg2, _⟩
  · cases e
  · have e : g = g2 := by simpa [Value.ownBlock] using e
    subst e
    rw [hg2] at h4
    injection h4 with h4
    injection h4 with _ h4 _
    exact h3 h4.symm⟩
end
/-- the parser lies in b, above B, with what it has told; r is what is left of s -/
structure Ps (B b : Nat) (s : ByteArray) (st : Ppa.St) (r : Ppa.Bs) (w : World) : Prop where
  ex : ∃ A c, Is 45 (preS s (s.size - r.length) (.slice A st.nodes.length c)) (postS st) B b st.text w ∧ w.ownsRow B 35 4 (.slice A st.nodes.length c) st.nodes.length (Wtr.ndsC st.nodes)
  suf : r <:+ s.data.toList
  ev : EvB B w
  le : B ≤ b
  small : s.size ≤ 65536
theorem nodes_ne {w : World} {B b n : Nat} {T : TypeId} {cs : Array Value} {v : Value} {xs : List Value} (hb : w.heap[b]? = some (.cells cs T (0, 0))) (hT : T ≠ 35) (h : w.ownsRow B 35 4 v n xs) : v.ownBlock ≠ some b := by
  rcases h.2 with ⟨rfl, _⟩ | ⟨g, cap, cur, rfl, _, hg, _⟩
  · simp [Value.ownBlock]
  · intro e
    have e : g = b := by simpa [Value.ownBlock] using e
    subst e
    rw [hb] at hg
    injection hg with e
    injection e with e1 e2 e3
    exact hT e2
/-- the parser, cell by cell -/
structure Px (B b : Nat) (s : ByteArray) (st : Ppa.St) (k : Nat) (A : Option Addr) (c : Nat) (p v : Value) (w : World) : Prop where
  known : p = .pointer none ∨ p = .pointer (some ⟨b, 3, none⟩)
  blk : w.heap[b]? = some (.cells #[.string s, .int .i64 (k : Int), .slice A st.nodes.length c, p, v, .int .i64 st.twice, .int .i64 st.deep] 45 (0, 0))
  buf : w.ownsRow B 5 1 v st.text.length (Lib.byteCells st.text)
  nds : w.ownsRow B 35 4 (.slice A st.nodes.length c) st.nodes.length (Wtr.ndsC st.nodes)
section
variable {B b k : Nat} {s : ByteArray} {st : Ppa.St} {r r' : Ppa.Bs} {w w' : World} {A : Option Addr} {c : Nat} {p v : Value}
theorem Px.bufn (h : Px B b s st k A c p v w) : v.ownBlock ≠ some b := own_block_ne h.blk (by decide) h.buf
theorem Px.ndsn (h : Px B b s st k A c p v w) : (Value.slice A st.nodes.length c).ownBlock ≠ some b := nodes_ne h.blk (by decide) h.nds
theorem Px.is (h : Px B b s st k A c p v w) : Is 45 (preS s k (.slice A st.nodes.length c)) (postS st) B b st.text w := by
  have hat : At 45 (preS s k (.slice A st.nodes.length c)) (postS st) B b p st.text w := ⟨v, h.blk, h.buf, h.bufn⟩
  rcases h.known with rfl | rfl
  · exact .inl hat
  · exact .inr hat
theorem Ps.px (h : Ps B b s st r w) : ∃ A c p v, Px B b s st (s.size - r.length) A c p v w := by
  obtain ⟨A, c, hI, hN⟩ := h.ex
  obtain ⟨p, hp, v, hbk, hown, hne⟩ := hI.any
  exact ⟨A, c, p, v, hp, hbk, hown, hN⟩
theorem Px.ps (h : Px B b s st (s.size - r.length) A c p v w) (h1 : r <:+ s.data.toList) (h2 : EvB B w) (h3 : B ≤ b) (h4 : s.size ≤ 65536) : Ps B b s st r w := ⟨⟨A, c, h.is, h.nds⟩, h1, h2, h3, h4⟩
theorem Px.lt (h : Px B b s st k A c p v w) : b < w.heap.size := (Array.getElem?_eq_some_iff.1 h.blk).1
theorem Px.c0 (h : Px B b s st k A c p v w) : w.cell? ⟨b, 0, none⟩ = some (.string s) := by rw [cell_of_row w b _ _ _ _ h.blk]; rfl
theorem Px.c1 (h : Px B b s st k A c p v w) : w.cell? ⟨b, 1, none⟩ = some (.int .i64 (k : Int)) := by rw [cell_of_row w b _ _ _ _ h.blk]; rfl
theorem Px.c2 (h : Px B b s st k A c p v w) : w.cell? ⟨b, 2, none⟩ = some (.slice A st.nodes.length c) := by rw [cell_of_row w b _ _ _ _ h.blk]; rfl
theorem Px.c3 (h : Px B b s st k A c p v w) : w.cell? ⟨b, 3, none⟩ = some p := by rw [cell_of_row w b _ _ _ _ h.blk]; rfl
theorem Px.c4 (h : Px B b s st k A c p v w) : w.cell? ⟨b, 4, none⟩ = some v := by rw [cell_of_row w b _ _ _ _ h.blk]; rfl
theorem Px.c5 (h : Px B b s st k A c p v w) : w.cell? ⟨b, 5, none⟩ = some (.int .i64 st.twice) := by rw [cell_of_row w b _ _ _ _ h.blk]; rfl
theorem Px.c6 (h : Px B b s st k A c p v w) : w.cell? ⟨b, 6, none⟩ = some (.int .i64 st.deep) := by rw [cell_of_row w b _ _ _ _ h.blk]; rfl
theorem Px.unf (h : Px B b s st k A c p v w) (i : Nat) : w.frozen? ⟨b, i, none⟩ = false := Joins.unfrozen_of_block h.blk _
theorem Px.below (h : Px B b s st k A c p v w) (hb : Below w.heap.size w w') : Px B b s st k A c p v w' := ⟨h.known, (hb.block b h.lt).trans h.blk, Flt.own_below h.buf hb, Flt.own_below h.nds hb⟩
theorem Px.put (h : Px B b s st k A c p v w) (k' : Nat) : Px B b s st k' A c p v (w.setCell ⟨b, 1, none⟩ (.int .i64 (k' : Int))) :=
  ⟨h.known, by rw [Joins.block_setCell h.blk]; rfl, Flt.own_other h.buf h.bufn, Flt.own_other h.nds h.ndsn⟩
theorem Px.twice (h : Px B b s st k A c p v w) (z : Int) : Px B b s { st with twice := z } k A c p v (w.setCell ⟨b, 5, none⟩ (.int .i64 z)) :=
  ⟨h.known, by rw [Joins.block_setCell h.blk]; rfl, Flt.own_other h.buf h.bufn, Flt.own_other h.nds h.ndsn⟩
theorem Px.deep (h : Px B b s st k A c p v w) (z : Int) : Px B b s { st with deep := z } k A c p v (w.setCell ⟨b, 6, none⟩ (.int .i64 z)) :=
  ⟨h.known, by rw [Joins.block_setCell h.blk]; rfl, Flt.own_other h.buf h.bufn, Flt.own_other h.nds h.ndsn⟩
theorem Ps.lt (h : Ps B b s st r w) : b < w.heap.size := by obtain ⟨A, c, p, v, hx⟩ := h.px; exact hx.lt
theorem Ps.len (h : Ps B b s st r w) : r.length ≤ s.size := by
  have := h.suf.length_le
  rw [size_len] at this
  exact this
theorem Ps.hB (h : Ps B b s st r w) : B ≤ w.heap.size := h.ev.le
theorem Ps.below (h : Ps B b s st r w) (hb : Below w.heap.size w w') : Ps B b s st r w' := by
  obtain ⟨A, c, p, v, hx⟩ := h.px
  exact (hx.below hb).ps h.suf (h.ev.below (hb.mono h.ev.le)) h.le h.small
theorem Ps.pa (h : Ps B b s st r w) : ∃ x, Pa B b s x r w ∧ ∀ r' w', Pa B b s x r' w' → w.grownBy w' (some b) → Ps B b s st r' w' ∧ Bel B b w w' := by
  obtain ⟨A, c, p, v, hx⟩ := h.px
  refine ⟨[.slice A st.nodes.length c, p, v, .int .i64 st.twice, .int .i64 st.deep], ⟨hx.blk, h.suf, h.ev, h.le, h.small⟩, fun r' w' hP hg => ⟨?_, Bel.grownB hg h.hB h.le⟩⟩
  have hx' : Px B b s st (s.size - r'.length) A c p v w' := ⟨hx.known, hP.row, hx.buf.kept hg (.inr hx.bufn), hx.nds.kept hg (.inr hx.ndsn)⟩
  exact hx'.ps hP.suf hP.ev hP.le hP.small
theorem Ps.grown (h : Ps B b s st r w) (hg : w.grownBy w' (some b)) : Bel B b w w' := Bel.grownB hg h.hB h.le
theorem Ps.at_ (h : Ps B b s st r w) : ∃ k : Nat, k + r.length = s.size ∧ w.cell? ⟨b, 1, none⟩ = some (.int .i64 (k : Int)) := by
  obtain ⟨A, c, p, v, hx⟩ := h.px
  exact ⟨s.size - r.length, by have := h.len; omega, hx.c1⟩
theorem Ps.unf (h : Ps B b s st r w) (i : Nat) : w.frozen? ⟨b, i, none⟩ = false := by obtain ⟨A, c, p, v, hx⟩ := h.px; exact hx.unf i
theorem Ps.c5 (h : Ps B b s st r w) : w.cell? ⟨b, 5, none⟩ = some (.int .i64 st.twice) := by obtain ⟨A, c, p, v, hx⟩ := h.px; exact hx.c5
theorem Ps.c6 (h : Ps B b s st r w) : w.cell? ⟨b, 6, none⟩ = some (.int .i64 st.deep) := by obtain ⟨A, c, p, v, hx⟩ := h.px; exact hx.c6
theorem set_low {B b i : Nat} {w : World} (h : B ≤ b) (u : Value) : Below B w (w.setCell ⟨b, i, none⟩ u) := (Below.refl B w).setCell (p := ⟨b, i, none⟩) h u
theorem Ps.put (h : Ps B b s st r w) (hs : r' <:+ s.data.toList) {z : Int} (hz : z + r'.length = s.size) : Ps B b s st r' (w.setCell ⟨b, 1, none⟩ (.int .i64 z)) := by
  obtain ⟨A, c, p, v, hx⟩ := h.px
  have hl := hs.length_le
  rw [size_len] at hl
  obtain rfl : z = ((s.size - r'.length : Nat) : Int) := by omega
  exact (hx.put (s.size - r'.length)).ps hs (h.ev.below (set_low h.le _)) h.le h.small
theorem Ps.twice (h : Ps B b s st r w) (z : Int) : Ps B b s { st with twice := z } r (w.setCell ⟨b, 5, none⟩ (.int .i64 z)) := by
  obtain ⟨A, c, p, v, hx⟩ := h.px
  exact (hx.twice z).ps h.suf (h.ev.below (set_low h.le _)) h.le h.small
theorem Ps.deep (h : Ps B b s st r w) (z : Int) : Ps B b s { st with deep := z } r (w.setCell ⟨b, 6, none⟩ (.int .i64 z)) := by
  obtain ⟨A, c, p, v, hx⟩ := h.px
  exact (hx.deep z).ps h.suf (h.ev.below (set_low h.le _)) h.le h.small
/-- what turns nothing below B0 leaves all that lies below it -/
theorem Ps.suf_tail {x : UInt8} {t : Ppa.Bs} (h : Ps B b s st (x :: t) w) : t <:+ s.data.toList := (List.suffix_cons _ _).trans h.suf
end
/-- how a structural way of reading ends -/
def WaysS (B b : Nat) (s : ByteArray) (w : World) (v : Value) (o : Except Ppa.Bs (Ppa.Bs × Ppa.St)) (e : Ending) (w' : World) : Prop :=
  Bel B b w w' ∧ match o with
    | .ok (r, st) => e = .returned v ∧ Ps B b s st r w'
    | .error r => Gone (s.size - r.length) e ∧ r.length ≤ s.size
section
variable {B b f : Nat} {s : ByteArray} {st : Ppa.St} {r r' : Ppa.Bs} {w : World} {args : Array Value}
theorem Ps.lex_ok {α : Type} {val : α → Value} {o : Except Ppa.Bs (α × Ppa.Bs)} {v : α} (h : Ps B b s st r w) (hc : ∀ x, Pa B b s x r w → Calls Tryz.prog f args w fun e w' => WaysV B b s x w val o e w') (ho : o = .ok (v, r')) :
    Calls Tryz.prog f args w fun e w' => e = .returned (val v) ∧ Ps B b s st r' w' ∧ Bel B b w w' := by
  obtain ⟨x, hP, back⟩ := h.pa
  exact (ways_ok (hc x hP) ho).mono fun e w' ⟨he, hp, hg⟩ => ⟨he, back _ _ hp hg⟩
theorem Ps.lex_no {α : Type} {val : α → Value} {o : Except Ppa.Bs (α × Ppa.Bs)} (h : Ps B b s st r w) (hc : ∀ x, Pa B b s x r w → Calls Tryz.prog f args w fun e w' => WaysV B b s x w val o e w') (ho : o = .error r') :
    Calls Tryz.prog f args w fun e w' => Gone (s.size - r'.length) e ∧ r'.length ≤ s.size ∧ Bel B b w w' := by
  obtain ⟨x, hP, back⟩ := h.pa
  exact (ways_no (hc x hP) ho).mono fun e w' ⟨he, hl, hg⟩ => ⟨he, hl, h.grown hg⟩
theorem Ps.way_ok {v : Value} {o : Except Ppa.Bs Ppa.Bs} (h : Ps B b s st r w) (hc : ∀ x, Pa B b s x r w → Calls Tryz.prog f args w fun e w' => Ways B b s x w v o e w') (ho : o = .ok r') :
    Calls Tryz.prog f args w fun e w' => e = .returned v ∧ Ps B b s st r' w' ∧ Bel B b w w' := by
  obtain ⟨x, hP, back⟩ := h.pa
  subst ho
  exact (hc x hP).mono fun e w' ⟨hg, he, hp⟩ => ⟨he, back _ _ hp hg⟩
theorem Ps.way_no {v : Value} {o : Except Ppa.Bs Ppa.Bs} (h : Ps B b s st r w) (hc : ∀ x, Pa B b s x r w → Calls Tryz.prog f args w fun e w' => Ways B b s x w v o e w') (ho : o = .error r') :
    Calls Tryz.prog f args w fun e w' => Gone (s.size - r'.length) e ∧ r'.length ≤ s.size ∧ Bel B b w w' := by
  obtain ⟨x, hP, back⟩ := h.pa
  subst ho
  exact (hc x hP).mono fun e w' ⟨hg, he, hl⟩ => ⟨he, hl, h.grown hg⟩
end
section
variable {B b : Nat} {s : ByteArray} {st : Ppa.St} {r t : Ppa.Bs} {w : World}
theorem peek_s (h : Ps B b s st r w) : Calls Tryz.prog 77 #[.pointer (some ⟨b, 0, none⟩)] w fun e w' => e = .returned (.int .i32 (Ppa.peek r)) ∧ Ps B b s st r w' ∧ Below w.heap.size w w' := by
  obtain ⟨x, hP, _⟩ := h.pa
  exact (peek_r hP).mono fun e w' ⟨he, hb⟩ => ⟨he, h.below hb, hb⟩
theorem blank_s (h : Ps B b s st r w) : Calls Tryz.prog 76 #[.pointer (some ⟨b, 0, none⟩)] w fun e w' => e = .returned (.bool (blankH r)) ∧ Ps B b s st r w' ∧ Below w.heap.size w w' := by
  obtain ⟨x, hP, _⟩ := h.pa
  exact (blank_r hP).mono fun e w' ⟨he, hb⟩ => ⟨he, h.below hb, hb⟩
theorem no_s (h : Ps B b s st r w) : Calls Tryz.prog 44 #[.pointer (some ⟨b, 0, none⟩)] w fun e w' => Gone (s.size - r.length) e ∧ w' = w := by
  obtain ⟨x, hP, _⟩ := h.pa
  exact no_r hP
theorem next_s (h : Ps B b s st r w) (hne : r ≠ []) : Calls Tryz.prog 78 #[.pointer (some ⟨b, 0, none⟩)] w fun e w' => e = .returned (.int .i32 (Ppa.peek r)) ∧ Ps B b s st (Ppa.skip r) w' ∧ Bel B b w w' := by
  obtain ⟨x, hP, back⟩ := h.pa
  exact (next_r hP hne).mono fun e w' ⟨he, hp, hg⟩ => ⟨he, back _ _ hp hg⟩
theorem blanks_s (h : Ps B b s st r w) : Calls Tryz.prog 39 #[.pointer (some ⟨b, 0, none⟩)] w fun e w' => e = .returned (.tuple #[]) ∧ Ps B b s st (Ppa.blanksL r) w' ∧ Bel B b w w' := by
  obtain ⟨x, hP, back⟩ := h.pa
  exact (blanks_r hP).mono fun e w' ⟨he, hp, hg⟩ => ⟨he, back _ _ hp hg⟩
/-- may: the character stands there -/
theorem may_yes (c : UInt8) (hc : c.toNat < 128) (h : Ps B b s st (c :: t) w) : Calls Tryz.prog 41 #[.pointer (some ⟨b, 0, none⟩), .int .i32 (c.toNat : Int)] w fun e w' => e = .returned (.bool true) ∧ Ps B b s st t w' ∧ Bel B b w w' := by
  obtain ⟨x, hP, back⟩ := h.pa
  have hp : Ppa.peek (c :: t) = (c.toNat : Int) := peek_low c t hc
  have h1 := may_r (c.toNat : Int) (by omega) hP
  rw [if_pos hp, decide_eq_true hp, skip_low c t hc] at h1
  exact h1.mono fun e w' ⟨he, hp, hg⟩ => ⟨he, back _ _ hp hg⟩
/-- may: it does not -/
theorem may_not (c : UInt8) (hc : c.toNat < 128) (hn : r.head? ≠ some c) (h : Ps B b s st r w) : Calls Tryz.prog 41 #[.pointer (some ⟨b, 0, none⟩), .int .i32 (c.toNat : Int)] w fun e w' => e = .returned (.bool false) ∧ Ps B b s st r w' ∧ Bel B b w w' := by
  obtain ⟨x, hP, back⟩ := h.pa
  have hp : ¬ Ppa.peek r = (c.toNat : Int) := fun e => hn ((peek_is c hc r).1 e)
  have h1 := may_r (c.toNat : Int) (by omega) hP
  rw [if_neg hp, decide_eq_false hp] at h1
  exact h1.mono fun e w' ⟨he, hp, hg⟩ => ⟨he, back _ _ hp hg⟩
theorem must_s_ok (l : List UInt8) (hl : l.all (fun c => decide (c.toNat < 128)) = true) (h : Ps B b s st r w) (hm : Ppa.mustL l r = .ok t) :
    Calls Tryz.prog 40 #[.pointer (some ⟨b, 0, none⟩), .string ⟨l.toArray⟩] w fun e w' => e = .returned (.tuple #[]) ∧ Ps B b s st t w' ∧ Bel B b w w' := by
  obtain ⟨x, hP, back⟩ := h.pa
  exact (must_ok l hl hP hm).mono fun e w' ⟨he, hp, hg⟩ => ⟨he, back _ _ hp hg⟩
theorem must_s_no (l : List UInt8) (hl : l.all (fun c => decide (c.toNat < 128)) = true) (h : Ps B b s st r w) (hm : Ppa.mustL l r = .error t) :
    Calls Tryz.prog 40 #[.pointer (some ⟨b, 0, none⟩), .string ⟨l.toArray⟩] w fun e w' => Gone (s.size - t.length) e ∧ t.length ≤ s.size ∧ Bel B b w w' := by
  obtain ⟨x, hP, _⟩ := h.pa
  exact (must_no l hl hP hm).mono fun e w' ⟨he, hl, hg⟩ => ⟨he, hl, h.grown hg⟩
theorem name_s_ok {nm : Ppa.Bs} (h : Ps B b s st r w) (hm : Ppa.nameM r = .ok (nm, t)) :
    Calls Tryz.prog 79 #[.pointer (some ⟨b, 0, none⟩)] w fun e w' => e = .returned (.string ⟨nm.toArray⟩) ∧ Ps B b s st t w' ∧ Bel B b w w' := h.lex_ok (val := strV) (fun _ hP => name_r hP) hm
theorem name_s_no (h : Ps B b s st r w) (hm : Ppa.nameM r = .error t) :
    Calls Tryz.prog 79 #[.pointer (some ⟨b, 0, none⟩)] w fun e w' => Gone (s.size - t.length) e ∧ t.length ≤ s.size ∧ Bel B b w w' := h.lex_no (val := strV) (fun _ hP => name_r hP) hm
theorem until_s_ok {v : Ppa.Bs} (l : List UInt8) (h0 : 0 < l.length) (h1 : l.length ≤ 100) (h : Ps B b s st r w) (hm : Ppa.untilR l r = .ok (v, t)) :
    Calls Tryz.prog 81 #[.pointer (some ⟨b, 0, none⟩), .string ⟨l.toArray⟩] w fun e w' => e = .returned (.string ⟨v.toArray⟩) ∧ Ps B b s st t w' ∧ Bel B b w w' :=
  h.lex_ok (val := strV) (fun _ hP => until_r ⟨l.toArray⟩ (by rw [Lib.size_mk]; exact h0) (by rw [Lib.size_mk]; exact h1) hP) hm
theorem until_s_no (l : List UInt8) (h0 : 0 < l.length) (h1 : l.length ≤ 100) (h : Ps B b s st r w) (hm : Ppa.untilR l r = .error t) :
    Calls Tryz.prog 81 #[.pointer (some ⟨b, 0, none⟩), .string ⟨l.toArray⟩] w fun e w' => Gone (s.size - t.length) e ∧ t.length ≤ s.size ∧ Bel B b w w' :=
  h.lex_no (val := strV) (fun _ hP => until_r ⟨l.toArray⟩ (by rw [Lib.size_mk]; exact h0) (by rw [Lib.size_mk]; exact h1) hP) hm
theorem ref_s_ok {n : Nat} (h : Ps B b s st r w) (hm : Ppa.refM r = .ok (n, t)) :
    Calls Tryz.prog 96 #[.pointer (some ⟨b, 0, none⟩)] w fun e w' => e = .returned (.int .i32 (n : Int)) ∧ Ps B b s st t w' ∧ Bel B b w w' := h.lex_ok (val := numV) (fun _ hP => reference_r hP) hm
theorem ref_s_no (h : Ps B b s st r w) (hm : Ppa.refM r = .error t) :
    Calls Tryz.prog 96 #[.pointer (some ⟨b, 0, none⟩)] w fun e w' => Gone (s.size - t.length) e ∧ t.length ≤ s.size ∧ Bel B b w w' := h.lex_no (val := numV) (fun _ hP => reference_r hP) hm
theorem value_s_ok {v : Ppa.Bs} (h : Ps B b s st r w) (ht : Pch.textsL r = true) (hm : Ppa.valM r = .ok (v, t)) :
    Calls Tryz.prog 120 #[.pointer (some ⟨b, 0, none⟩)] w fun e w' => e = .returned (.string ⟨v.toArray⟩) ∧ Ps B b s st t w' ∧ Bel B b w w' := h.lex_ok (val := strV) (fun _ hP => value_r hP ht) hm
theorem value_s_no (h : Ps B b s st r w) (ht : Pch.textsL r = true) (hm : Ppa.valM r = .error t) :
    Calls Tryz.prog 120 #[.pointer (some ⟨b, 0, none⟩)] w fun e w' => Gone (s.size - t.length) e ∧ t.length ≤ s.size ∧ Bel B b w w' := h.lex_no (val := strV) (fun _ hP => value_r hP ht) hm
end
end Go.Proofs.YtlemdhfekdiaeaaGreatDoor.Wps
