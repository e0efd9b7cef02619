/- Plain: what the document's reader wants to know of the reading of values, elements, declarations, references (chapter 07). The document's reader in memory: its block, its nodes, its text; look, step, is, must, blanks (chapter 07). The document's reader: a name, what stands ahead of an end, what characters say (chapter 07). The document's reader: what characters say, digits, a character by its number, references (chapter 07). The document's reader: a reference; a string's bytes put behind a row (chapter 07). The document's reader: an attribute's value (chapter 07). The document's reader with its nodes and its text: add, flush, xml (chapter 07). The document's reader: instructions, comments (chapter 07). -/
import Derived.Test.YtlemdhfekdiaeaaGreatDoorParseAF
import Derived.Test.YtlemdhfekdiaeaaGreatDoorCharsWalksE
import Derived.Shelf.Strings.Builder1
import Derived.Laws.Cover4
import Derived.Deep.RegionLaw
import Derived.Lib.AppendStr
namespace Go.Proofs.YtlemdhfekdiaeaaGreatDoor.Ppa
open Go Go.Lib Go.Proofs.YtlemdhfekdiaeaaGreatDoor.Ptr Go.Proofs.YtlemdhfekdiaeaaGreatDoor.Wps

theorem numM_dec {u : Bs} (h : u.head? ≠ some 120) : numM u = numG false 0 false u := by
  unfold numM
  split
  · exact absurd rfl h
  · rfl
end Go.Proofs.YtlemdhfekdiaeaaGreatDoor.Ppa
namespace Go.Proofs.YtlemdhfekdiaeaaGreatDoor.Ppa
open Go Go.Lib Go.Proofs.YtlemdhfekdiaeaaGreatDoor.Ptr Go.Proofs.YtlemdhfekdiaeaaGreatDoor.Wps

theorem valM_eq (x : UInt8) (u : Bs) : valM (x :: u) = if x = 34 ∨ x = 39 then (match valF x (u.length + 1) [] u with | some o => o | none => Except.error []) else Except.error (x :: u) := rfl
/-- an end of a right text -/
def Tx (r : Bs) : Prop := ∃ r0, Pch.textsL r0 = true ∧ r <:+ r0
theorem Tx.low {x : UInt8} {t : Bs} (h : Tx (x :: t)) (hx : x.toNat < 128) : Pch.textsL t = true := by
  obtain ⟨r0, h1, h2⟩ := h
  exact texts_tail h1 h2 hx
theorem Tx.of {r : Bs} (h : Pch.textsL r = true) : Tx r := ⟨r, h, List.suffix_refl _⟩
end Go.Proofs.YtlemdhfekdiaeaaGreatDoor.Ppa
namespace Go.Proofs.YtlemdhfekdiaeaaGreatDoor.Ppa
open Go Go.Lib Go.Proofs.YtlemdhfekdiaeaaGreatDoor.Ptr Go.Proofs.YtlemdhfekdiaeaaGreatDoor.Wps

theorem elem_tail (N f : Nat) (p : Int) (d : Nat) (r : Bs) (s : St) : elemF N (f + 1) p d r s = match nameM r with
    | .error r1 => some (.error r1)
    | .ok (nm, r1) => match attrsF N (elemS N p d r nm s).nodes.length.pred (f + 1) r1 (elemS N p d r nm s) with
      | none => none
      | some oA => tailM N f nm (elemS N p d r nm s).nodes.length.pred d oA := by
  rw [elemF_eq]
  cases nameM r with
  | error r1 => rfl
  | ok q =>
    obtain ⟨nm, r1⟩ := q
    dsimp only
    generalize elemS N p d r nm s = S
    generalize attrsF N S.nodes.length.pred (f + 1) r1 S = oo
    cases oo with
    | none => rfl
    | some oA =>
      cases oA with
      | error r2 => rfl
      | ok q2 =>
        obtain ⟨r2, s2⟩ := q2
        by_cases h47 : ∃ t, r2 = 47 :: t
        · obtain ⟨t, rfl⟩ := h47
          rfl
        · unfold tailM
          refine (match47 h47 _ _).trans ?_
          symm
          exact match47 h47 _ _
end Go.Proofs.YtlemdhfekdiaeaaGreatDoor.Ppa
namespace Go.Proofs.YtlemdhfekdiaeaaGreatDoor.Ppa
open Go Go.Lib Go.Proofs.YtlemdhfekdiaeaaGreatDoor.Ptr Go.Proofs.YtlemdhfekdiaeaaGreatDoor.Wps

theorem declM_eq (r : Bs) : declM r = match mustL [118, 101, 114, 115, 105, 111, 110] (blanksL r) with
  | .error r1 => .error r1
  | .ok r1 => match quotM [49, 46, 48] r1 with
    | .error r2 => .error r2
    | .ok r2 =>
      if blankH r2 = true ∧ (blanksL r2).head? = some 101 then
        (match mustL [101, 110, 99, 111, 100, 105, 110, 103] (blanksL r2) with
          | .error r3 => .error r3
          | .ok r3 => match quotM [117, 116, 102, 45, 56] r3 with
            | .error r4 => .error r4
            | .ok r4 => mustL [63, 62] (blanksL r4))
      else mustL [63, 62] (blanksL r2) := rfl
end Go.Proofs.YtlemdhfekdiaeaaGreatDoor.Ppa
namespace Go.Proofs.YtlemdhfekdiaeaaGreatDoor.Ppa
open Go Go.Lib Go.Proofs.YtlemdhfekdiaeaaGreatDoor.Ptr Go.Proofs.YtlemdhfekdiaeaaGreatDoor.Wps

/-- an end, at a character -/
def Er (r t : Bs) : Prop := t <:+ r ∧ (Pch.textsL r = true → Pch.textsL t = true)
theorem Er.refl (r : Bs) : Er r r := ⟨List.suffix_refl _, id⟩
theorem Er.trans {a b c : Bs} (h : Er a b) (k : Er b c) : Er a c := ⟨k.1.trans h.1, fun t => k.2 (h.2 t)⟩
theorem Er.low {x : UInt8} (t : Bs) (hx : x.toNat < 128) : Er (x :: t) t := ⟨List.suffix_cons _ _, texts_low hx⟩
theorem er_must : ∀ (a r t : Bs), (∀ c ∈ a, c.toNat < 128) → mustL a r = .error t → Er r t
  | [], r, t, _, h => by cases h
  | c :: a, [], t, _, h => by injection h with h; rw [← h]; exact Er.refl _
  | c :: a, x :: u, t, ha, h => by
    unfold mustL at h
    split at h
    · rename_i e
      exact (Er.low u (by rw [e]; exact ha c (by simp))).trans (er_must a u t (fun z hz => ha z (by simp [hz])) h)
    · injection h with h
      rw [← h]
      exact Er.refl _
theorem er_num {hex : Bool} : ∀ (r : Bs) (n : Nat) (any : Bool) (t : Bs), numG hex n any r = .error t → Er r t
  | [], n, any, t, h => by rw [numG] at h; injection h with h; rw [← h]; exact Er.refl _
  | y :: u, n, any, t, h => by
    cases hd : digO hex (y :: u) with
    | some d =>
      have hlow := digO_low hd
      rw [numG_more hd] at h
      generalize n * (if hex = true then 16 else 10) + d = q at h
      split at h
      · injection h with h; rw [← h]; exact Er.refl _
      · exact (Er.low u hlow).trans (er_num u _ true t h)
    | none =>
      rw [numG_end hd] at h
      split at h
      · injection h with h; rw [← h]; exact Er.refl _
      · cases h
theorem er_is {a r t : Bs} {n : Nat} (ha : ∀ c ∈ a, c.toNat < 128) (h : isM a n r = .error t) : Er r t := by
  unfold isM at h
  cases hm : mustL a r with
  | ok u => rw [hm] at h; cases h
  | error u =>
    rw [hm] at h
    injection h with h
    subst h
    exact er_must _ _ _ ha hm
theorem er_ref {r t : Bs} (h : refM r = .error t) : Er r t := by
  by_cases h1 : r.head? = some 35
  · obtain ⟨u, rfl⟩ := head_cons h1
    rw [refM_num] at h
    refine (Er.low u (by decide)).trans ?_
    by_cases hx : u.head? = some 120
    · obtain ⟨v, rfl⟩ := head_cons hx
      exact (Er.low v (by decide)).trans (er_num v 0 false t h)
    · rw [numM_dec hx] at h
      exact er_num u 0 false t h
  · by_cases h2 : r.head? = some 108
    · obtain ⟨u, rfl⟩ := head_cons h2
      rw [refM_l] at h
      exact er_is (by decide) h
    · by_cases h3 : r.head? = some 103
      · obtain ⟨u, rfl⟩ := head_cons h3
        rw [refM_g] at h
        exact er_is (by decide) h
      · by_cases h4 : r.head? = some 113
        · obtain ⟨u, rfl⟩ := head_cons h4
          rw [refM_q] at h
          exact er_is (by decide) h
        · by_cases h5 : r.head? = some 97
          · obtain ⟨u, rfl⟩ := head_cons h5
            by_cases h6 : u.head? = some 109
            · obtain ⟨v, rfl⟩ := head_cons h6
              rw [refM_am] at h
              exact (Er.low (109 :: v) (by decide)).trans (er_is (by decide) h)
            · rw [refM_a h6] at h
              exact (Er.low u (by decide)).trans (er_is (by decide) h)
          · rw [refM_none h1 h2 h3 h4 h5] at h
            injection h with h
            rw [h]
            exact Er.refl _
end Go.Proofs.YtlemdhfekdiaeaaGreatDoor.Ppa
namespace Go.Proofs.YtlemdhfekdiaeaaGreatDoor.Ppa
open Go Go.Lib Go.Proofs.YtlemdhfekdiaeaaGreatDoor.Ptr Go.Proofs.YtlemdhfekdiaeaaGreatDoor.Wps

end Go.Proofs.YtlemdhfekdiaeaaGreatDoor.Ppa
namespace Go.Proofs.YtlemdhfekdiaeaaGreatDoor.Wrd
open Go Go.RowKit Go.Proofs.YtlemdhfekdiaeaaGreatDoor.Kb Go.Proofs.YtlemdhfekdiaeaaGreatDoor.Wch Go.Proofs.YtlemdhfekdiaeaaGreatDoor.Wps Go.Proofs.YtlemdhfekdiaeaaGreatDoor.Emk Go.PlainAid

/-- is it bad; what is left -/
abbrev Sg := Bool × Ppa.Bs
/-- the reader, cell by cell -/
structure Rx (B b : Nat) (s : ByteArray) (bad : Bool) (st : Ppa.St) (k : Nat) (A : Option Addr) (c : Nat) (v : Value) (w : World) : Prop where
  blk : w.heap[b]? = some (.cells #[.string s, .int .i64 (k : Int), .bool bad, .slice A st.nodes.length c, v, .int .i64 st.twice, .int .i64 st.deep] 74 (0, 0))
  buf : w.ownsRow B 5 1 v st.text.length (Lib.byteCells st.text)
  nds : w.ownsRow B 35 4 (.slice A st.nodes.length c) st.nodes.length (Wtr.ndsC st.nodes)
section
variable {B b k : Nat} {s : ByteArray} {bad : Bool} {st : Ppa.St} {w w' : World} {A : Option Addr} {c : Nat} {v : Value}
theorem Rx.bufn (h : Rx B b s bad st k A c v w) : v.ownBlock ≠ some b := own_block_ne h.blk (by decide) h.buf
theorem Rx.ndsn (h : Rx B b s bad st k A c v w) : (Value.slice A st.nodes.length c).ownBlock ≠ some b := nodes_ne h.blk (by decide) h.nds
theorem Rx.lt (h : Rx B b s bad st k A c v w) : b < w.heap.size := (Array.getElem?_eq_some_iff.1 h.blk).1
theorem Rx.c0 (h : Rx B b s bad st k A c v w) : w.cell? ⟨b, 0, none⟩ = some (.string s) := by rw [cell_of_row w b _ _ _ _ h.blk]; rfl
theorem Rx.c1 (h : Rx B b s bad st k A c v w) : w.cell? ⟨b, 1, none⟩ = some (.int .i64 (k : Int)) := by rw [cell_of_row w b _ _ _ _ h.blk]; rfl
theorem Rx.c2 (h : Rx B b s bad st k A c v w) : w.cell? ⟨b, 2, none⟩ = some (.bool bad) := by rw [cell_of_row w b _ _ _ _ h.blk]; rfl
theorem Rx.c3 (h : Rx B b s bad st k A c v w) : w.cell? ⟨b, 3, none⟩ = some (.slice A st.nodes.length c) := by rw [cell_of_row w b _ _ _ _ h.blk]; rfl
theorem Rx.c4 (h : Rx B b s bad st k A c v w) : w.cell? ⟨b, 4, none⟩ = some v := by rw [cell_of_row w b _ _ _ _ h.blk]; rfl
theorem Rx.c5 (h : Rx B b s bad st k A c v w) : w.cell? ⟨b, 5, none⟩ = some (.int .i64 st.twice) := by rw [cell_of_row w b _ _ _ _ h.blk]; rfl
theorem Rx.c6 (h : Rx B b s bad st k A c v w) : w.cell? ⟨b, 6, none⟩ = some (.int .i64 st.deep) := by rw [cell_of_row w b _ _ _ _ h.blk]; rfl
theorem Rx.unf (h : Rx B b s bad st k A c v w) (i : Nat) : w.frozen? ⟨b, i, none⟩ = false := Joins.unfrozen_of_block h.blk _
theorem Rx.below (h : Rx B b s bad st k A c v w) (hb : Below w.heap.size w w') : Rx B b s bad st k A c v w' := ⟨(hb.block b h.lt).trans h.blk, Flt.own_below h.buf hb, Flt.own_below h.nds hb⟩
theorem Rx.put (h : Rx B b s bad st k A c v w) (k' : Nat) : Rx B b s bad st k' A c v (w.setCell ⟨b, 1, none⟩ (.int .i64 (k' : Int))) :=
  ⟨by rw [Joins.block_setCell h.blk]; rfl, Flt.own_other h.buf h.bufn, Flt.own_other h.nds h.ndsn⟩
theorem Rx.no (h : Rx B b s bad st k A c v w) (x : Bool) : Rx B b s x st k A c v (w.setCell ⟨b, 2, none⟩ (.bool x)) :=
  ⟨by rw [Joins.block_setCell h.blk]; rfl, Flt.own_other h.buf h.bufn, Flt.own_other h.nds h.ndsn⟩
theorem Rx.twice (h : Rx B b s bad st k A c v w) (z : Int) : Rx B b s bad { st with twice := z } k A c v (w.setCell ⟨b, 5, none⟩ (.int .i64 z)) :=
  ⟨by rw [Joins.block_setCell h.blk]; rfl, Flt.own_other h.buf h.bufn, Flt.own_other h.nds h.ndsn⟩
theorem Rx.deep (h : Rx B b s bad st k A c v w) (z : Int) : Rx B b s bad { st with deep := z } k A c v (w.setCell ⟨b, 6, none⟩ (.int .i64 z)) :=
  ⟨by rw [Joins.block_setCell h.blk]; rfl, Flt.own_other h.buf h.bufn, Flt.own_other h.nds h.ndsn⟩
end
/-- the reader lies in b, above B, with what it has told; σ: is it bad, and what is left of s -/
structure Rd (B b : Nat) (s : ByteArray) (st : Ppa.St) (z : Option Addr × Nat × Value) (σ : Sg) (w : World) : Prop where
  ex : Rx B b s σ.1 st (s.size - σ.2.length) z.1 z.2.1 z.2.2 w
  suf : σ.2 <:+ s.data.toList
  tx : Pch.textsL σ.2 = true
  le : B ≤ b
  hB : B ≤ w.heap.size
  small : s.size ≤ 65536
section
variable {B b : Nat} {s : ByteArray} {st : Ppa.St} {z : Option Addr × Nat × Value} {σ : Sg} {w w' : World}
theorem Rd.len (h : Rd B b s st z σ w) : σ.2.length ≤ s.size := by
  have := h.suf.length_le
  rw [size_len] at this
  exact this
theorem Rd.drop (h : Rd B b s st z σ w) : s.data.toList.drop (s.size - σ.2.length) = σ.2 := by
  have := List.suffix_iff_eq_drop.1 h.suf
  rw [size_len] at this
  exact this.symm
theorem Rd.lt (h : Rd B b s st z σ w) : b < w.heap.size := h.ex.lt
theorem Rd.c0 (h : Rd B b s st z σ w) : w.cell? ⟨b, 0, none⟩ = some (.string s) := h.ex.c0
theorem Rd.c1 (h : Rd B b s st z σ w) : w.cell? ⟨b, 1, none⟩ = some (.int .i64 ((s.size - σ.2.length : Nat) : Int)) := h.ex.c1
theorem Rd.c2 (h : Rd B b s st z σ w) : w.cell? ⟨b, 2, none⟩ = some (.bool σ.1) := h.ex.c2
theorem Rd.c5 (h : Rd B b s st z σ w) : w.cell? ⟨b, 5, none⟩ = some (.int .i64 st.twice) := h.ex.c5
theorem Rd.c6 (h : Rd B b s st z σ w) : w.cell? ⟨b, 6, none⟩ = some (.int .i64 st.deep) := h.ex.c6
theorem Rd.unf (h : Rd B b s st z σ w) (i : Nat) : w.frozen? ⟨b, i, none⟩ = false := h.ex.unf i
theorem Rd.at_ (h : Rd B b s st z σ w) : ∃ k : Nat, k + σ.2.length = s.size ∧ w.cell? ⟨b, 1, none⟩ = some (.int .i64 (k : Int)) := ⟨s.size - σ.2.length, by have := h.len; omega, h.c1⟩
theorem Rd.below (h : Rd B b s st z σ w) (hb : Below w.heap.size w w') : Rd B b s st z σ w' := by
  have hx := h.ex
  exact ⟨hx.below hb, h.suf, h.tx, h.le, Nat.le_trans h.hB hb.size, h.small⟩
theorem Rd.put {r' : Ppa.Bs} (h : Rd B b s st z σ w) (he : r' <:+ σ.2) (ht : Pch.textsL r' = true) {y : Int} (hz : y + r'.length = s.size) : Rd B b s st z (σ.1, r') (w.setCell ⟨b, 1, none⟩ (.int .i64 y)) := by
  have hx := h.ex
  have hl := he.length_le
  have hl2 := h.len
  obtain rfl : y = ((s.size - r'.length : Nat) : Int) := by omega
  exact ⟨hx.put (s.size - r'.length), he.trans h.suf, ht, h.le, by simpa using h.hB, h.small⟩
theorem Rd.no (h : Rd B b s st z σ w) : Rd B b s st z (true, σ.2) (w.setCell ⟨b, 2, none⟩ (.bool true)) := by
  have hx := h.ex
  exact ⟨hx.no true, h.suf, h.tx, h.le, by simpa using h.hB, h.small⟩
theorem Rd.twice (h : Rd B b s st z σ w) (y : Int) : Rd B b s { st with twice := y } z σ (w.setCell ⟨b, 5, none⟩ (.int .i64 y)) := by
  have hx := h.ex
  exact ⟨hx.twice y, h.suf, h.tx, h.le, by simpa using h.hB, h.small⟩
theorem Rd.deep (h : Rd B b s st z σ w) (y : Int) : Rd B b s { st with deep := y } z σ (w.setCell ⟨b, 6, none⟩ (.int .i64 y)) := by
  have hx := h.ex
  exact ⟨hx.deep y, h.suf, h.tx, h.le, by simpa using h.hB, h.small⟩
theorem Rd.push {w5 : World} {σ0 : Sg} {vo : Value} {n : Nat} {xs : List Value} (h0 : Rd B b s st z σ0 w) (h : Rd B b s st z σ w') (ho : w'.ownsRow w.heap.size 5 1 vo n xs) (hg : w'.grownBy w5 vo.ownBlock) : Rd B b s st z σ w5 := by
  have hx := h.ex
  have hx0 := h0.ex
  have hne : ∀ g, vo.ownBlock = some g → w.heap.size ≤ g := fun g e => (ho.lt g e).1
  have far : ∀ u : Value, (∀ g, u.ownBlock = some g → g < w.heap.size) → u.ownBlock = none ∨ u.ownBlock ≠ vo.ownBlock := by
    intro u hu
    cases hub : u.ownBlock with
    | none => exact .inl rfl
    | some g =>
      refine .inr fun e => ?_
      have h1 := hu g hub
      have h2 := hne g e.symm
      omega
  refine ⟨⟨?_, hx.buf.kept hg (far _ fun g e => (hx0.buf.lt g e).2), hx.nds.kept hg (far _ fun g e => (hx0.nds.lt g e).2)⟩, h.suf, h.tx, h.le, Nat.le_trans h.hB hg.size, h.small⟩
  exact (hg.block b hx.lt (fun e => by have h1 := hne b e.symm; have h2 := hx0.lt; omega)).trans hx.blk
theorem grown_own {w5 : World} {vo : Value} {n : Nat} {xs : List Value} (h : w.grownBy w' (some b)) (ho : w'.ownsRow w.heap.size 5 1 vo n xs) (hg : w'.grownBy w5 vo.ownBlock) : w.grownBy w5 (some b) :=
  ⟨hg.os.trans h.os, hg.tape.trans h.tape, hg.output.trans h.output, Nat.le_trans h.size hg.size, fun j hj hne => (hg.block j (Nat.lt_of_lt_of_le hj h.size) (fun e => by have h1 := (ho.lt j e.symm).1; omega)).trans (h.block j hj hne)⟩
theorem own_grown {w5 : World} {vo : Value} {n N : Nat} {xs : List Value} (hb : b < N) (ho : w'.ownsRow N 5 1 vo n xs) (hg : w'.grownBy w5 (some b)) : w5.ownsRow N 5 1 vo n xs :=
  ho.kept hg (by
    cases hv : vo.ownBlock with
    | none => exact .inl rfl
    | some g =>
      refine .inr fun e => ?_
      injection e with e
      subst e
      have := (ho.lt g hv).1
      omega)
theorem grown_low {B b : Nat} {w w' : World} (hg : w.grownBy w' (some b)) (hB : B ≤ w.heap.size) (hb : B ≤ b) : Below B w w' := Below.grown (Below.refl _ _) hg hB (fun k hk => by cases hk; exact hb)
end
/-- the character that stands next, as the document's reader sees it -/
def lk (σ : Sg) : Nat := if σ.1 = true ∨ σ.2 = [] then 0 else (Lib.decodeL σ.2).1
theorem lk_bad (r : Ppa.Bs) : lk (true, r) = 0 := by unfold lk; simp
theorem lk_nil (x : Bool) : lk (x, []) = 0 := by unfold lk; simp
theorem lk_ok {r : Ppa.Bs} (h : r ≠ []) : lk (false, r) = (Lib.decodeL r).1 := by unfold lk; simp [h]
theorem lk_low (c : UInt8) (t : Ppa.Bs) (h : c.toNat < 128) : lk (false, c :: t) = c.toNat := by rw [lk_ok (by simp), Lib.decodeL_ascii c t h]
theorem lk_peek {r : Ppa.Bs} (h : r ≠ []) : (lk (false, r) : Int) = Ppa.peek r := by rw [lk_ok h]; unfold Ppa.peek; rw [if_neg h]
/-- a low character stands next -/
theorem lk_is (c : UInt8) (hc : c.toNat < 128) (h0 : 0 < c.toNat) (r : Ppa.Bs) : lk (false, r) = c.toNat ↔ r.head? = some c := by
  by_cases hr : r = []
  · subst hr
    rw [lk_nil]
    simp
    omega
  · rw [← peek_is c hc r, ← lk_peek hr]
    omega
theorem lk_pos {r : Ppa.Bs} (h : r ≠ []) (ht : Pch.textsL r = true) : 0 < lk (false, r) := by
  rw [lk_ok h]
  have := (Ppa.texts_step h ht).2.1
  rw [Pch.charB_iff] at this
  omega
theorem nextL_texts {r : Ppa.Bs} (h : r ≠ []) (ht : Pch.textsL r = true) : Pch.nextL r = Lib.decodeL r := by
  unfold Pch.nextL
  rw [if_pos (Ppa.texts_step h ht).1]
theorem nextc_r {s : ByteArray} {r : Ppa.Bs} (hs : s.size ≤ 65536) (hd : s.data.toList.drop (s.size - r.length) = r) (hne : r ≠ []) (hl : r.length ≤ s.size) (ht : Pch.textsL r = true) (w : World) :
    Calls Tryz.prog 84 #[.string s, .int .i64 ((s.size - r.length : Nat) : Int)] w fun e w' => e = .returned (.tuple #[.int .i32 (Lib.decodeL r).1, .int .i64 (Lib.decodeL r).2]) ∧ Below w.heap.size w w' := by
  have hp := List.length_pos_iff.2 hne
  have h := Wch.next_any s (s.size - r.length) w (by omega) (by omega)
  unfold nextAt at h
  rw [hd, nextL_texts hne ht] at h
  exact h.mono fun e w' ⟨he, hw⟩ => ⟨he, by subst hw; exact Below.refl _ _⟩
theorem ret_i32 {a b : Int} (h : a = b) : Ending.returned (.int .i32 a) = .returned (.int .i32 b) := by rw [h]
section
variable {B b : Nat} {s : ByteArray} {st : Ppa.St} {z : Option Addr × Nat × Value} {σ : Sg} {w : World}
set_option maxRecDepth 100000 in
set_option maxHeartbeats 2000000 in
theorem look_r (h : Rd B b s st z σ w) : Calls Tryz.prog 50 #[.pointer (some ⟨b, 0, none⟩)] w fun e w' => e = .returned (.int .i32 (lk σ : Int)) ∧ Rd B b s st z σ w' ∧ Below w.heap.size w w' := by
  obtain ⟨x, r⟩ := σ
  have bx0 := beh_cell h.c0
  have bx1 := beh_cell h.c1
  have bx2 := beh_cell h.c2
  have hl := h.len
  dsimp only at bx0 bx1 bx2 hl
  have HH := Kept.mk h
  clear h
  cases x
  · by_cases hr : r = []
    · subst hr
      rw [lk_nil]
      have i1 : ((s.size - ([] : Ppa.Bs).length : Nat) : Int) = (s.size : Int) := by simp
      rw [i1] at bx1
      clear i1
      go_enter Tryz.func50, Tryz.ntmps50
      go_wp2
      refine wp_region_beh (by kernel_rfl) (by kernel_rfl) ?_
      repeat
        (refine Qw_step (fun K hK => ?_)
         go_simp
         first
           | (refine hK _ ?_; clear hK K)
           | (apply Exists.intro
              refine ⟨fun _ => ?_, hK _ ?_⟩
              (fail)
              clear hK K))
      refine Qw_nil ?_
      rintro w5 ⟨⟨_, hb5⟩, rfl⟩
      have B5 := Kept.mk hb5
      clear hb5 bx0 bx1 bx2
      go_wp2
      go_ret
      exact ⟨rfl, HH.out.below B5.out, B5.out⟩
    · have hp := List.length_pos_iff.2 hr
      have CN := Kept.mk (fun W => nextc_r (w := W) HH.out.small HH.out.drop hr hl HH.out.tx)
      obtain ⟨k, hk⟩ : ∃ k, s.size - r.length = k := ⟨_, rfl⟩
      dsimp only at CN
      rw [hk] at bx1 CN
      rw [lk_ok hr]
      have k0 : (0 : Int) ≤ (k : Int) := by omega
      have k1 : (k : Int) < (s.size : Int) := by omega
      have HK := Kept.mk hk
      clear hk hp hr hl
      go_enter Tryz.func50, Tryz.ntmps50
      go_wp2
      refine wp_region_beh (by kernel_rfl) (by kernel_rfl) ?_
      repeat
        (refine Qw_step (fun K hK => ?_)
         go_simp
         first
           | (refine hK _ ?_; clear hK K)
           | (apply Exists.intro
              refine ⟨fun _ => ?_, hK _ ?_⟩
              (fail)
              clear hK K))
      refine Qw_nil ?_
      rintro w5 ⟨⟨_, hb5⟩, rfl⟩
      clear bx0 bx1 bx2
      have H5 := Kept.mk (HH.out.below hb5)
      have B5 := Kept.mk hb5
      have bx0 := beh_cell H5.out.c0
      have bx1 := beh_cell H5.out.c1
      dsimp only at bx1
      rw [HK.out] at bx1
      clear hb5
      go_wp2
      refine wp_region_beh (by kernel_rfl) (by kernel_rfl) ?_
      repeat
        (refine Qw_step (fun K hK => ?_)
         go_simp
         first
           | (refine hK _ ?_; clear hK K)
           | (apply Exists.intro
              refine ⟨fun _ => ?_, hK _ ?_⟩
              (go_at_call 84; exact Calls.beh_of (CN.out _))
              clear hK K))
      refine Qw_nil ?_
      rintro w6 ⟨⟨_, hb6⟩, rfl⟩
      have B6 := Kept.mk hb6
      clear hb6 bx0 bx1
      go_wp2
      go_ret
      exact ⟨rfl, H5.out.below B6.out, B5.out.trans (B6.out.mono B5.out.size)⟩
  · rw [lk_bad]
    go_enter Tryz.func50, Tryz.ntmps50
    go_wp2
    refine wp_region_beh (by kernel_rfl) (by kernel_rfl) ?_
    repeat
      (refine Qw_step (fun K hK => ?_)
       go_simp
       first
         | (refine hK _ ?_; clear hK K)
         | (apply Exists.intro
            refine ⟨fun _ => ?_, hK _ ?_⟩
            (fail)
            clear hK K))
    refine Qw_nil ?_
    rintro w5 ⟨⟨_, hb5⟩, rfl⟩
    have B5 := Kept.mk hb5
    clear hb5 bx0 bx1 bx2
    go_wp2
    go_ret
    exact ⟨rfl, HH.out.below B5.out, B5.out⟩
set_option maxRecDepth 100000 in
set_option maxHeartbeats 2000000 in
theorem step_r (h : Rd B b s st z σ w) (hr : σ.2 ≠ []) : Calls Tryz.prog 51 #[.pointer (some ⟨b, 0, none⟩)] w fun e w' => e = .returned (.tuple #[]) ∧ Rd B b s st z (σ.1, Ppa.skip σ.2) w' ∧ w.grownBy w' (some b) := by
  obtain ⟨x, r⟩ := σ
  have bx0 := beh_cell h.c0
  have bx1 := beh_cell h.c1
  have hl := h.len
  dsimp only at bx0 bx1 hl hr ⊢
  have HH := Kept.mk h
  clear h
  have hp := List.length_pos_iff.2 hr
  have CN := Kept.mk (fun W => nextc_r (w := W) HH.out.small HH.out.drop hr hl HH.out.tx)
  have hd := Lib.decodeL_le r hr
  have hsk : (Ppa.skip r).length = r.length - (Lib.decodeL r).2 := by unfold Ppa.skip; exact List.length_drop
  have ht := (Ppa.texts_step hr HH.out.tx).2.2
  obtain ⟨k, hk⟩ : ∃ k, s.size - r.length = k := ⟨_, rfl⟩
  have HK := Kept.mk hk
  dsimp only at CN
  rw [hk] at bx1 CN
  have hs := HH.out.small
  obtain ⟨d, hdd⟩ : ∃ d, (Lib.decodeL r).2 = d := ⟨_, rfl⟩
  rw [hdd] at CN hd hsk
  have k0 : (0 : Int) ≤ (k : Int) := by omega
  have k1 : (k : Int) ≤ 65536 := by omega
  have d0 : (0 : Int) ≤ (d : Int) := by omega
  have d1 : (d : Int) ≤ 65536 := by omega
  have hz : (k : Int) + (d : Int) + (Ppa.skip r).length = s.size := by omega
  have HZ := Kept.mk hz
  clear hk hp hr hl hd hsk hs hdd hz
  go_enter Tryz.func51, Tryz.ntmps51
  go_wp2
  refine wp_region_beh (by kernel_rfl) (by kernel_rfl) ?_
  repeat
    (refine Qw_step (fun K hK => ?_)
     go_simp
     first
       | (refine hK _ ?_; clear hK K)
       | (apply Exists.intro
          refine ⟨fun _ => ?_, hK _ ?_⟩
          (go_at_call 84; exact Calls.beh_of (CN.out _))
          clear hK K))
  refine Qw_nil ?_
  rintro w5 ⟨⟨_, hb5⟩, rfl⟩
  clear bx0 bx1
  have H5 := Kept.mk (HH.out.below hb5)
  have B5 := Kept.mk hb5
  have c1 := H5.out.c1
  have f1 := H5.out.unf 1
  dsimp only at c1
  rw [HK.out] at c1
  clear hb5
  go_wp2
  go_end0
  exact ⟨rfl, H5.out.put (List.drop_suffix _ _) ht HZ.out, grown_set (grown_of_below B5.out _) 1 _⟩
set_option maxRecDepth 100000 in
theorem no_r (h : Rd B b s st z σ w) : Calls Tryz.prog 52 #[.pointer (some ⟨b, 0, none⟩)] w fun e w' => e = .returned (.tuple #[]) ∧ Rd B b s st z (true, σ.2) w' ∧ w.grownBy w' (some b) := by
  have c2 := h.c2
  have f2 := h.unf 2
  have HH := Kept.mk h
  clear h
  go_enter Tryz.func52, Tryz.ntmps52
  go_wp2
  go_end0
  exact ⟨rfl, HH.out.no, grown_set (World.grownBy.refl _ _) 2 _⟩
/-- behind a look for c -/
def isS (c : Nat) (σ : Sg) : Sg := if lk σ = c then (σ.1, Ppa.skip σ.2) else σ
theorem lk_ne {c : Nat} {σ : Sg} (hc : 0 < c) (h : lk σ = c) : σ.2 ≠ [] := by
  intro e
  unfold lk at h
  rw [if_pos (.inr e)] at h
  omega
set_option maxRecDepth 100000 in
theorem is_r (c : Nat) (hc : 0 < c) (h : Rd B b s st z σ w) : Calls Tryz.prog 53 #[.pointer (some ⟨b, 0, none⟩), .int .i32 (c : Int)] w fun e w' => e = .returned (.bool (decide (lk σ = c))) ∧ Rd B b s st z (isS c σ) w' ∧ w.grownBy w' (some b) := by
  have CL := Kept.mk (look_r h)
  unfold isS
  by_cases hp : lk σ = c
  · have hne := lk_ne hc hp
    rw [if_pos hp, decide_eq_true hp]
    rw [hp] at CL
    clear hc h
    go_enter Tryz.func53, Tryz.ntmps53
    go_wp2_with (first | (go_at_call 50; refine CL.out.mono ?_; rintro e w1 ⟨rfl, H1, hb1⟩; have G1 := Kept.mk (grown_of_below hb1 (some b)); clear hb1 hp) | (go_at_call 51; refine (step_r H1 hne).mono ?_; rintro e w2 ⟨rfl, H2, hg2⟩; have G2 := Kept.mk hg2; clear hg2))
    go_ret
    exact ⟨rfl, H2, G1.out.trans G2.out⟩
  · rw [if_neg hp, decide_eq_false hp]
    have e1 : ((lk σ : Int) != (c : Int)) = true := by simp; omega
    have e2 : ¬ (lk σ : Int) = (c : Int) := by omega
    clear hc h hp
    go_enter Tryz.func53, Tryz.ntmps53
    go_wp2_with (go_at_call 50; refine CL.out.mono ?_; rintro e w1 ⟨rfl, H1, hb1⟩; have G1 := Kept.mk (grown_of_below hb1 (some b)); clear hb1)
    go_ret
    exact ⟨rfl, H1, G1.out⟩
/-- behind what must stand there -/
def mustB (a : Ppa.Bs) (σ : Sg) : Sg := if σ.1 = true then σ else match Ppa.mustL a σ.2 with | .ok t => (false, t) | .error t => (true, t)
theorem mustB_bad (a r : Ppa.Bs) : mustB a (true, r) = (true, r) := rfl
theorem mustB_nil (σ : Sg) : mustB [] σ = σ := by
  obtain ⟨x, r⟩ := σ
  cases x <;> rfl
theorem mustB_eq (c : UInt8) (a t : Ppa.Bs) : mustB (c :: a) (false, c :: t) = mustB a (false, t) := by
  unfold mustB
  simp only [mustL_eq]
  rfl
theorem mustB_ne {c : UInt8} {a r : Ppa.Bs} (h : r.head? ≠ some c) : mustB (c :: a) (false, r) = (true, r) := by
  unfold mustB
  simp only [mustL_ne h]
  rfl
theorem low_byte (a : ByteArray) (ha : ∀ c ∈ a.data.toList, 0 < c.toNat ∧ c.toNat < 128) (i : Nat) (h : i < a.size) : ∃ c : UInt8, 0 < c.toNat ∧ c.toNat < 128 ∧ a.data.toList.drop i = c :: a.data.toList.drop (i + 1) ∧ bt a i = (c.toNat : Int) := by
  have hl : i < a.data.toList.length := by rw [size_len]; exact h
  have hc := ha _ (List.getElem_mem hl)
  refine ⟨a.data.toList[i], hc.1, hc.2, List.drop_eq_getElem_cons hl, ?_⟩
  rw [bt_getD, List.getD_eq_getElem?_getD, List.getElem?_eq_getElem hl]
  rfl
set_option maxRecDepth 100000 in
set_option maxHeartbeats 2000000 in
theorem must_r (a : ByteArray) (ha : ∀ c ∈ a.data.toList, 0 < c.toNat ∧ c.toNat < 128) (hz : a.size ≤ 1000000) (h : Rd B b s st z σ w) : Calls Tryz.prog 55 #[.pointer (some ⟨b, 0, none⟩), .string a] w fun e w' => e = .returned (.tuple #[]) ∧ Rd B b s st z (mustB a.data.toList σ) w' ∧ w.grownBy w' (some b) := by
  generalize hT : mustB a.data.toList σ = T
  have HT := Kept.mk hT
  clear hT
  go_enter Tryz.func55, Tryz.ntmps55
  go_wp2
  go_loopg [4] a.size (fun g s4 wx => ∃ (i : Nat) (σ' : Sg), s4 = .int .i64 (i : Int) ∧ i + g = a.size ∧ Kept (Rd B b s st z σ' wx) ∧ Kept (w.grownBy wx (some b)) ∧ Kept (mustB (a.data.toList.drop i) σ' = T))
  case atStart => exact ⟨0, σ, rfl, by omega, ⟨h⟩, ⟨World.grownBy.refl _ _⟩, HT⟩
  case round =>
    obtain ⟨i, σ', rfl, hi, HP, G, HE⟩ := hrel
    clear HT h
    have i0 : (0 : Int) ≤ (i : Int) := by omega
    by_cases hp : i < a.size
    · obtain ⟨g, rfl⟩ : ∃ g, gk = g + 1 := ⟨gk - 1, by omega⟩
      have i1 : (i : Int) < (a.size : Int) := by omega
      have i2 : (i : Int) ≤ 1000000 := by omega
      obtain ⟨c, hc0, hc, hdr, hbt⟩ := low_byte a ha i hp
      obtain ⟨x, r⟩ := σ'
      have c2 := HP.out.c2
      dsimp only at c2
      have HE2 := HE.out
      rw [hdr] at HE2
      have HX := Kept.mk HE2
      clear HE HE2 hdr
      cases x
      · have CI := Kept.mk (is_r c.toNat hc0 HP.out)
        have hb := get_bt a
        have q0 : (0 : Int) ≤ (c.toNat : Int) := by omega
        have q1 : (c.toNat : Int) ≤ 127 := by omega
        by_cases hq : r.head? = some c
        · obtain ⟨t, rfl⟩ := head_cons hq
          have e1 : lk (false, c :: t) = c.toNat := lk_low c t hc
          rw [e1, decide_eq_true rfl] at CI
          have e2 : isS c.toNat (false, c :: t) = (false, t) := by unfold isS; rw [if_pos e1, skip_low c t hc]
          rw [e2] at CI
          rw [mustB_eq] at HX
          clear e1 e2 hq
          go_wp2_with (go_at_call 53; refine CI.out.mono ?_; rintro e w1 ⟨rfl, H1, hg1⟩; have P1 := Kept.mk H1; have G1 := Kept.mk (G.out.trans hg1); clear H1 hg1)
          go_roundg g
          case measure => omega
          case rel => exact ⟨i + 1, (false, t), by go_num, by omega, P1, G1, HX⟩
        · have e1 : ¬ lk (false, r) = c.toNat := fun e => hq ((lk_is c hc hc0 r).1 e)
          rw [decide_eq_false e1] at CI
          have e2 : isS c.toNat (false, r) = (false, r) := by unfold isS; rw [if_neg e1]
          rw [e2] at CI
          rw [mustB_ne hq] at HX
          clear e1 e2 hq
          go_wp2_with (first | (go_at_call 53; refine CI.out.mono ?_; rintro e w1 ⟨rfl, H1, hg1⟩; have P1 := Kept.mk H1; have G1 := Kept.mk (G.out.trans hg1); clear H1 hg1) | (go_at_call 52; refine (no_r P1.out).mono ?_; rintro e w2 ⟨rfl, H2, hg2⟩; have P2 := Kept.mk H2; have G2 := Kept.mk (G1.out.trans hg2); clear H2 hg2))
          go_roundg g
          case measure => omega
          case rel => exact ⟨i + 1, (true, r), by go_num, by omega, P2, G2, ⟨by rw [mustB_bad]; exact HX.out⟩⟩
      · go_wp2_with (fail)
        go_roundg g
        case measure => omega
        case rel => exact ⟨i + 1, (true, r), by go_num, by omega, HP, G, ⟨by rw [mustB_bad]; rw [mustB_bad] at HX; exact HX.out⟩⟩
    · have i1 : ¬ (i : Int) < (a.size : Int) := by omega
      obtain rfl : i = a.size := by omega
      have HE2 := HE.out
      rw [List.drop_eq_nil_of_le (by rw [size_len]; exact Nat.le_refl _), mustB_nil] at HE2
      clear HE
      go_wp2
      go_end0
      exact ⟨rfl, by rw [← HE2]; exact HP.out, G.out⟩
/-- is a character blank? -/
def blkN (c : Nat) : Bool := decide (c = 9 ∨ c = 10 ∨ c = 13 ∨ c = 32)
theorem rblank_any (c : Nat) (w : World) : Calls Tryz.prog 48 #[.int .i32 (c : Int)] w fun e w' => e = .returned (.bool (blkN c)) ∧ w = w' := by
  go_enter Tryz.func48, Tryz.ntmps48
  go_wp2
  all_goals
    go_ret
    refine ⟨Wps.ret_bool ?_, rfl⟩
    rw [Bool.eq_iff_iff]
    unfold blkN
    simp only [decide_eq_true_eq, Bool.or_eq_true, beq_iff_eq, true_iff] at *
    try omega
def blanksB (σ : Sg) : Sg := if σ.1 = true then σ else (false, Ppa.blanksL σ.2)
theorem blk_lk (x : Bool) (r : Ppa.Bs) : blkN (lk (x, r)) = (!x && blankH r) := by
  cases x
  · cases r with
    | nil => rw [lk_nil]; rfl
    | cons y t =>
      rcases Nat.lt_or_ge y.toNat 128 with hy | hy
      · rw [lk_low y t hy]
        unfold blkN blankH Pch.blankC
        rw [Bool.eq_iff_iff]
        simp only [Bool.and_eq_true, Bool.or_eq_true, beq_iff_eq, ← UInt8.toNat_inj, decide_eq_true_eq, Bool.not_false, true_and]
        simp
        omega
      · have h1 := peek_high y t hy
        rw [← lk_peek (by simp)] at h1
        unfold blkN blankH Pch.blankC
        rw [Bool.eq_iff_iff]
        simp only [Bool.and_eq_true, Bool.or_eq_true, beq_iff_eq, ← UInt8.toNat_inj, decide_eq_true_eq, Bool.not_false, true_and]
        simp
        omega
  · rw [lk_bad]
    rfl
set_option maxRecDepth 100000 in
set_option maxHeartbeats 2000000 in
theorem blanks_r (h : Rd B b s st z σ w) : Calls Tryz.prog 86 #[.pointer (some ⟨b, 0, none⟩)] w fun e w' => e = .returned (.tuple #[]) ∧ Rd B b s st z (blanksB σ) w' ∧ w.grownBy w' (some b) := by
  generalize hT : blanksB σ = T
  have HT := Kept.mk hT
  clear hT
  go_enter Tryz.func86, Tryz.ntmps86
  go_wp2
  go_loopg [] σ.2.length (fun g wx => ∃ (σ' : Sg), Kept (Rd B b s st z σ' wx) ∧ Kept (w.grownBy wx (some b)) ∧ Kept (blanksB σ' = T) ∧ σ'.2.length ≤ g)
  case atStart => exact ⟨σ, ⟨h⟩, ⟨World.grownBy.refl _ _⟩, HT, Nat.le_refl _⟩
  case round =>
    obtain ⟨⟨x, r⟩, HP, G, HE, hle⟩ := hrel
    clear HT h
    have CL := Kept.mk (look_r HP.out)
    have CB := Kept.mk (fun W => rblank_any (lk (x, r)) W)
    have hbk := blk_lk x r
    generalize lk (x, r) = C at CL CB hbk
    rw [hbk] at CB
    cases hx : (!x && blankH r) with
    | false =>
      rw [hx] at CB
      clear hbk
      go_wp2_with (first | (go_at_call 50; refine CL.out.mono ?_; rintro e w1 ⟨rfl, H1, hb1⟩; have P1 := Kept.mk H1; have G1 := Kept.mk (G.out.trans (grown_of_below hb1 (some b))); clear H1 hb1) | (go_at_call 48; refine (CB.out _).mono ?_; rintro e w2 ⟨rfl, rfl⟩))
      go_end0
      refine ⟨rfl, ?_, G1.out⟩
      rw [← HE.out]
      have hP := P1.out
      cases x
      · rw [show blanksB (false, r) = (false, r) by unfold blanksB; rw [if_neg (by simp), blanksL_of_false (by simpa using hx)]]
        exact hP
      · exact hP
    | true =>
      rw [hx] at CB
      obtain ⟨rfl, hbl⟩ : x = false ∧ blankH r = true := by simpa using hx
      obtain ⟨y, t, rfl⟩ : ∃ y t, r = y :: t := by
        cases r with
        | nil => cases hbl
        | cons y t => exact ⟨y, t, rfl⟩
      obtain ⟨g, rfl⟩ : ∃ g, gk = g + 1 := ⟨gk - 1, by simp at hle; omega⟩
      have hsk : Ppa.skip (y :: t) = t := skip_low y t (blankC_low hbl)
      have HE2 := Kept.mk (show blanksB (false, t) = T by rw [← HE.out]; unfold blanksB; rw [if_neg (by simp), if_neg (by simp), blanksL_of_true hbl])
      clear hbk hx
      go_wp2_with (first | (go_at_call 50; refine CL.out.mono ?_; rintro e w1 ⟨rfl, H1, hb1⟩; have P1 := Kept.mk H1; have G1 := Kept.mk (G.out.trans (grown_of_below hb1 (some b))); clear H1 hb1) | (go_at_call 48; refine (CB.out _).mono ?_; rintro e w2 ⟨rfl, rfl⟩) | (go_at_call 51; refine (step_r P1.out (by simp)).mono ?_; rintro e w3 ⟨rfl, H3, hg3⟩; rw [hsk] at H3; have P3 := Kept.mk H3; have G3 := Kept.mk (G1.out.trans hg3); clear H3 hg3))
      go_roundg g
      case measure => simp at hle; omega
      case rel => exact ⟨(false, t), P3, G3, HE2, by simp at hle; omega⟩
end
end Go.Proofs.YtlemdhfekdiaeaaGreatDoor.Wrd
namespace Go.Proofs.YtlemdhfekdiaeaaGreatDoor.Wrd
open Go Go.RowKit Go.Proofs.YtlemdhfekdiaeaaGreatDoor.Kb Go.Proofs.YtlemdhfekdiaeaaGreatDoor.Wch Go.Proofs.YtlemdhfekdiaeaaGreatDoor.Wps Go.Proofs.YtlemdhfekdiaeaaGreatDoor.Emk Go.PlainAid

theorem start_lk (r : Ppa.Bs) : Pch.startB (lk (false, r) : Int) = Pch.startB (Ppa.peek r) := by
  by_cases h : r = []
  · subst h
    rw [lk_nil]
    decide
  · rw [lk_peek h]
theorem name_lk (r : Ppa.Bs) : Pch.nameB (lk (false, r) : Int) = Pch.nameB (Ppa.peek r) := by
  by_cases h : r = []
  · subst h
    rw [lk_nil]
    decide
  · rw [lk_peek h]
/-- behind a name; the name -/
def nameS (σ : Sg) : Sg × Ppa.Bs := if σ.1 = true then (σ, []) else match Ppa.nameM σ.2 with | .ok (nm, t) => ((false, t), nm) | .error t => ((true, t), [])
theorem nameS_bad (r : Ppa.Bs) : nameS (true, r) = ((true, r), []) := rfl
theorem nameS_no {r : Ppa.Bs} (h : Pch.startB (Ppa.peek r) = false) : nameS (false, r) = ((true, r), []) := by
  unfold nameS
  rw [if_neg (by simp), show Ppa.nameM r = .error r by unfold Ppa.nameM; rw [if_neg (by simp [h])]]
theorem nameS_ok {r : Ppa.Bs} {k : Nat} (h : Pch.startB (Ppa.peek r) = true) (hk : Ppa.nameF r.length 0 r = .ok k) : nameS (false, r) = ((false, r.drop k), r.take k) := by
  unfold nameS
  rw [if_neg (by simp), nameM_eq h, hk]
  rfl
theorem nameS_err {r : Ppa.Bs} {k : Nat} (h : Pch.startB (Ppa.peek r) = true) (hk : Ppa.nameF r.length 0 r = .error k) : nameS (false, r) = ((true, r.drop k), []) := by
  unfold nameS
  rw [if_neg (by simp), nameM_eq h, hk]
  rfl
section
variable {B b : Nat} {s : ByteArray} {st : Ppa.St} {z : Option Addr × Nat × Value} {σ : Sg} {w : World}
set_option maxRecDepth 100000 in
set_option maxHeartbeats 4000000 in
theorem name_r (h : Rd B b s st z σ w) : Calls Tryz.prog 88 #[.pointer (some ⟨b, 0, none⟩)] w fun e w' => e = .returned (.string ⟨(nameS σ).2.toArray⟩) ∧ Rd B b s st z (nameS σ).1 w' ∧ w.grownBy w' (some b) := by
  obtain ⟨x, r⟩ := σ
  have CL := Kept.mk (look_r h)
  obtain ⟨k0, hk0, c1⟩ := h.at_
  have hs9 := h.small
  have hdr := h.drop
  have hll := h.len
  dsimp only at hk0 hdr hll
  have i0 : (0 : Int) ≤ (k0 : Int) := by omega
  have i1 : (k0 : Int) ≤ 65536 := by omega
  cases hst : Pch.startB (lk (x, r) : Int) with
  | false =>
    have hS : nameS (x, r) = ((true, r), []) := by
      cases x
      · exact nameS_no (by rw [← start_lk]; exact hst)
      · rfl
    rw [hS]
    have CS := Kept.mk (fun W => refStart_any (lk (x, r) : Int) W)
    rw [hst] at CS
    clear hst hS
    generalize lk (x, r) = C at CL CS
    go_enter Tryz.func88, Tryz.ntmps88
    go_wp2_with (first | (go_at_call 50; refine CL.out.mono ?_; rintro e w1 ⟨rfl, H1, hb1⟩; have P1 := Kept.mk H1; have G1 := Kept.mk (grown_of_below hb1 (some b)); clear H1 hb1) | (go_at_call 122; refine (CS.out _).mono ?_; rintro e w2 ⟨rfl, rfl⟩) | (go_at_call 52; refine (no_r P1.out).mono ?_; rintro e w3 ⟨rfl, H3, hg3⟩; have G3 := Kept.mk (G1.out.trans hg3); clear hg3))
    go_ret
    exact ⟨rfl, H3, G3.out⟩
  | true =>
    obtain rfl : x = false := by
      cases x
      · rfl
      · rw [lk_bad] at hst
        revert hst
        decide
    have hpk : Pch.startB (Ppa.peek r) = true := by rw [← start_lk]; exact hst
    obtain ⟨N, hN⟩ : ∃ N, Ppa.nameF r.length 0 r = N := ⟨_, rfl⟩
    have HO : Kept (∀ k, N = .ok k → nameS (false, r) = ((false, r.drop k), r.take k)) := ⟨fun k e => nameS_ok hpk (by rw [hN, e])⟩
    have HE : Kept (∀ k, N = .error k → nameS (false, r) = ((true, r.drop k), [])) := ⟨fun k e => nameS_err hpk (by rw [hN, e])⟩
    have HN := Kept.mk hN
    have CS := Kept.mk (fun W => refStart_any (lk (false, r) : Int) W)
    rw [hst] at CS
    clear hst hpk hN
    generalize nameS (false, r) = R at HO HE
    generalize lk (false, r) = C at CL CS
    go_enter Tryz.func88, Tryz.ntmps88
    go_wp2_with (first | (go_at_call 50; refine CL.out.mono ?_; rintro e w1 ⟨rfl, H1, hb1⟩; have P1 := Kept.mk H1; have G1 := Kept.mk (grown_of_below hb1 (some b)); clear H1 hb1) | (go_at_call 122; refine (CS.out _).mono ?_; rintro e w2 ⟨rfl, rfl⟩))
    go_loopg [4, 5] r.length (fun g _ _ wx => ∃ k : Nat, k ≤ r.length ∧ Kept (Rd B b s st z (false, r.drop k) wx) ∧ Kept (w.grownBy wx (some b)) ∧ Kept (Ppa.nameF g k (r.drop k) = N) ∧ r.length - k ≤ g ∧ k ≤ 100)
    case atStart => exact ⟨0, by omega, P1, G1, HN, by omega, by omega⟩
    case round =>
      obtain ⟨k, hk, HP, G, HF, hfu, hk100⟩ := hrel
      clear CL CS HN P1 G1
      have CL := Kept.mk (look_r HP.out)
      have CM := Kept.mk (fun W => refName_any (lk (false, r.drop k) : Int) W)
      have hnl := name_lk (r.drop k)
      generalize lk (false, r.drop k) = C at CL CM hnl
      rw [hnl] at CM
      cases hnb : Pch.nameB (Ppa.peek (r.drop k)) with
      | false =>
        have HX := Kept.mk (HO.out k (HF.out.symm.trans (nameF_end _ _ _ hnb)))
        rw [hnb] at CM
        clear hnb hnl
        go_wp2_with (first | (go_at_call 50; refine CL.out.mono ?_; rintro e w3 ⟨rfl, H3, hb3⟩; have P3 := Kept.mk H3; have G3 := Kept.mk (grown_of_below hb3 (some b)); clear H3 hb3) | (go_at_call 123; refine (CM.out _).mono ?_; rintro e w4 ⟨rfl, rfl⟩))
        obtain ⟨k1, hk1, d1⟩ := P3.out.at_
        have hlr : (r.drop k).length = r.length - k := List.length_drop
        dsimp only at hk1
        obtain rfl : k1 = k0 + k := by omega
        rw [show ((k0 + k : Nat) : Int) = (k0 : Int) + (k : Int) by omega] at d1
        have bx0 := beh_cell P3.out.c0
        have bx1 := beh_cell d1
        have i2 : (k0 : Int) ≤ (k0 : Int) + (k : Int) := by omega
        have i3 : (k0 : Int) + (k : Int) ≤ (s.size : Int) := by omega
        have i4 : (0 : Int) ≤ (k0 : Int) + (k : Int) := by omega
        refine wp_region_beh (by kernel_rfl) (by kernel_rfl) ?_
        repeat
          (refine Qw_step (fun K hK => ?_)
           go_simp
           first
             | (refine hK _ ?_; clear hK K)
             | (apply Exists.intro
                refine ⟨fun _ => ?_, hK _ ?_⟩
                (fail)
                clear hK K))
        refine Qw_nil ?_
        rintro w5 ⟨⟨_, hb5⟩, rfl⟩
        have P5 := Kept.mk (P3.out.below hb5)
        have G5 := Kept.mk (grown_of_below hb5 (some b))
        clear bx0 bx1 hb5
        go_wp2
        go_ret
        refine ⟨?_, ?_, G.out.trans (G3.out.trans G5.out)⟩
        · rw [HX.out]
          refine ret_str ?_
          rw [show ((k0 : Int) + (k : Int)).toNat = k0 + k by omega, extract_part, show k0 = s.size - r.length by omega, hdr]
        · rw [HX.out]
          exact P5.out
      | true =>
        rw [hnb] at CM
        have hne := name_ne hnb
        have hpos := List.length_pos_iff.2 hne
        have hd1 := Lib.decodeL_width (r.drop k)
        have hd2 := Lib.decodeL_le (r.drop k) hne
        obtain ⟨g, rfl⟩ : ∃ g, gk = g + 1 := ⟨gk - 1, by have hlr : (r.drop k).length = r.length - k := List.length_drop; omega⟩
        have hS := nameF_step g k (r.drop k) hnb
        have hsk : Ppa.skip (r.drop k) = r.drop (k + (Lib.decodeL (r.drop k)).2) := by unfold Ppa.skip; rw [List.drop_drop]
        have CN := Kept.mk (fun W => nextc_r (w := W) HP.out.small HP.out.drop hne HP.out.len HP.out.tx)
        have CT := Kept.mk (fun (W : World) (H : Rd B b s st z (false, r.drop k) W) => step_r H hne)
        dsimp only at CN CT
        rw [hsk] at CT
        have hlr : (r.drop k).length = r.length - k := List.length_drop
        generalize (Lib.decodeL (r.drop k)).2 = d at hS hsk hd1 hd2 CN CT
        generalize (Lib.decodeL (r.drop k)).1 = d1 at CN
        have hkk : s.size - (r.drop k).length = k0 + k := by omega
        rw [hkk] at CN
        have h1 := HF.out
        rw [hS, hsk] at h1
        have l2 : (r.drop (k + d)).length = r.length - (k + d) := List.length_drop
        clear hnb hnl hS HF
        go_wp2_with (first | (go_at_call 50; refine CL.out.mono ?_; rintro e w3 ⟨rfl, H3, hb3⟩; have P3 := Kept.mk H3; have G3 := Kept.mk (grown_of_below hb3 (some b)); clear H3 hb3) | (go_at_call 123; refine (CM.out _).mono ?_; rintro e w4 ⟨rfl, rfl⟩))
        have hc1 := P3.out.c1
        dsimp only at hc1
        rw [hkk] at hc1
        have bx0 := beh_cell P3.out.c0
        have bx1 := beh_cell hc1
        refine wp_region_beh (by kernel_rfl) (by kernel_rfl) ?_
        repeat
          (refine Qw_step (fun K hK => ?_)
           go_simp
           first
             | (refine hK _ ?_; clear hK K)
             | (apply Exists.intro
                refine ⟨fun _ => ?_, hK _ ?_⟩
                (go_at_call 84; exact Calls.beh_of (CN.out _))
                clear hK K))
        refine Qw_nil ?_
        rintro w5 ⟨⟨_, hb5⟩, rfl⟩
        have P5 := Kept.mk (P3.out.below hb5)
        have G5 := Kept.mk (G.out.trans (G3.out.trans (grown_of_below hb5 (some b))))
        have e1 := P5.out.c1
        dsimp only at e1
        rw [hkk] at e1
        clear bx0 bx1 hb5 hc1 hkk
        have j0 : (0 : Int) ≤ (d : Int) := by omega
        have j1 : (d : Int) ≤ 65536 := by omega
        have j2 : ((k0 + k : Nat) : Int) = (k0 : Int) + (k : Int) := by omega
        have j3 : (0 : Int) ≤ (k : Int) := by omega
        have j4 : (k : Int) ≤ 100 := by omega
        rw [j2] at e1
        by_cases hbig : 100 < k + d
        · rw [if_pos hbig] at h1
          have HX := Kept.mk (HE.out k h1.symm)
          have j5 : (100 : Int) < (k : Int) + (d : Int) := by omega
          have j6 : (k0 : Int) + (k : Int) + (d : Int) - (k0 : Int) = (k : Int) + (d : Int) := by omega
          clear h1
          go_wp2_with (go_at_call 52; refine (no_r P5.out).mono ?_; rintro e w6 ⟨rfl, H6, hg6⟩; have G6 := Kept.mk (G5.out.trans hg6); clear hg6)
          go_ret
          rw [HX.out]
          exact ⟨rfl, H6, G6.out⟩
        · rw [if_neg hbig] at h1
          have HF2 := Kept.mk h1
          have j5 : ¬ (100 : Int) < (k : Int) + (d : Int) := by omega
          have j6 : (k0 : Int) + (k : Int) + (d : Int) - (k0 : Int) = (k : Int) + (d : Int) := by omega
          clear h1
          go_wp2_with (go_at_call 51; refine (CT.out _ P5.out).mono ?_; rintro e w6 ⟨rfl, H6, hg6⟩; have P6 := Kept.mk H6; have G6 := Kept.mk (G5.out.trans hg6); clear H6 hg6)
          go_roundg g
          case measure => omega
          case rel => exact ⟨k + d, by omega, P6, G6, HF2, by omega, by omega⟩
/-! ### what stands ahead of an end -/
end
theorem untilM_no {e : Ppa.Bs} (x : UInt8) (t : Ppa.Bs) (h : Lib.hasPrefix (x :: t) e = false) : Ppa.untilM e (x :: t) = (Ppa.untilM e t).map fun p => (x :: p.1, p.2) := by
  rw [Ppa.untilM, if_neg (by simp [h])]
theorem high_no {c : UInt8} {e : Ppa.Bs} (x : UInt8) (t : Ppa.Bs) (hc : c.toNat < 128) (hx : 128 ≤ x.toNat) : Lib.hasPrefix (x :: t) (c :: e) = false := by
  show (c :: e).isPrefixOf (x :: t) = false
  rw [List.isPrefixOf]
  have : (c == x) = false := by
    rw [beq_eq_false_iff_ne]
    rintro rfl
    omega
  rw [this]
  rfl
theorem untilM_copy {c : UInt8} {e : Ppa.Bs} (hc : c.toNat < 128) : ∀ (u t : Ppa.Bs), (∀ y ∈ u, 128 ≤ y.toNat) → Ppa.untilM (c :: e) (u ++ t) = (Ppa.untilM (c :: e) t).map fun p => (u ++ p.1, p.2)
  | [], t, _ => by simp
  | x :: u, t, h => by
    rw [List.cons_append, untilM_no x _ (high_no x _ hc (h x (by simp))), untilM_copy hc u t (fun y hy => h y (by simp [hy]))]
    cases Ppa.untilM (c :: e) t with
    | none => rfl
    | some q => rfl
/-- a character further -/
theorem untilM_char {c : UInt8} {e r : Ppa.Bs} (hc : c.toNat < 128) (hne : r ≠ []) (ht : Pch.textsL r = true) (h : Lib.hasPrefix r (c :: e) = false) : Ppa.untilM (c :: e) r = (Ppa.untilM (c :: e) (Ppa.skip r)).map fun p => (r.take (Lib.decodeL r).2 ++ p.1, p.2) := by
  cases r with
  | nil => exact absurd rfl hne
  | cons y u =>
    rcases Nat.lt_or_ge y.toNat 128 with hy | hy
    · rw [untilM_no y u h, skip_low y u hy, Lib.decodeL_ascii y u hy]
      rfl
    · have h1 := Ppa.char_high hy ht
      have h2 := untilM_copy (e := e) hc _ ((y :: u).drop (Lib.decodeL (y :: u)).2) h1
      rw [List.take_append_drop] at h2
      exact h2
theorem untilM_yes {e r : Ppa.Bs} (he : e ≠ []) (h : Lib.hasPrefix r e = true) : Ppa.untilM e r = some ([], r.drop e.length) := by
  cases r with
  | nil =>
    exfalso
    cases e with
    | nil => exact he rfl
    | cons c e => cases h
  | cons y u => rw [Ppa.untilM, if_pos h]
/-- behind an end; what stands ahead of it -/
def untilS (e : Ppa.Bs) (σ : Sg) : Sg × Ppa.Bs := if σ.1 = true then (σ, []) else match Ppa.untilM e σ.2 with | some (v, t) => ((false, t), v) | none => ((true, []), [])
section
variable {B b : Nat} {s : ByteArray} {st : Ppa.St} {z : Option Addr × Nat × Value} {σ : Sg} {w : World}
theorem pre_eq (s a : ByteArray) (k n : Nat) (r : Ppa.Bs) (hd : s.data.toList.drop k = r) (hn : a.size = n) : ((s.extract k (k + n)).toList == a.toList) = Lib.hasPrefix r a.data.toList := by
  rw [ByteArray.toList_eq, ByteArray.toList_eq, extract_part, hd]
  show (r.take n == a.data.toList) = a.data.toList.isPrefixOf r
  rw [Bool.eq_iff_iff, beq_iff_eq, List.isPrefixOf_iff_prefix]
  have hl : a.data.toList.length = n := by rw [size_len]; exact hn
  constructor
  · intro e
    rw [← e]
    exact List.take_prefix _ _
  · intro hp
    rw [← hl]
    exact (List.prefix_iff_eq_take.1 hp).symm
set_option maxRecDepth 100000 in
set_option maxHeartbeats 4000000 in
theorem until_r (a : ByteArray) (c : UInt8) (e0 : Ppa.Bs) (hac : a.data.toList = c :: e0) (hlow : ∀ x ∈ a.data.toList, x.toNat < 128) (ha2 : a.size ≤ 100) (h : Rd B b s st z σ w) : Calls Tryz.prog 90 #[.pointer (some ⟨b, 0, none⟩), .string a] w fun e w' => e = .returned (.string ⟨(untilS a.data.toList σ).2.toArray⟩) ∧ Rd B b s st z (untilS a.data.toList σ).1 w' ∧ w.grownBy w' (some b) := by
  obtain ⟨x, r⟩ := σ
  have hs9 := h.small
  have hll := h.len
  dsimp only at hll
  have c1 := h.c1
  have c2 := h.c2
  dsimp only at c1 c2
  cases x
  · generalize hR : untilS a.data.toList (false, r) = R
    have HR := Kept.mk hR
    have HH := Kept.mk h
    have HC := Kept.mk hac
    have HL := Kept.mk hlow
    obtain ⟨k0, hk0⟩ : ∃ k0, s.size - r.length = k0 := ⟨_, rfl⟩
    rw [hk0] at c1
    have hdr := h.drop
    dsimp only at hdr
    rw [hk0] at hdr
    have HD := Kept.mk hdr
    have hcl : c.toNat < 128 := hlow c (by rw [hac]; simp)
    clear hR h hac hlow hdr
    go_enter Tryz.func90, Tryz.ntmps90
    go_wp2
    go_loopg [6] r.length (fun g _ wx => ∃ k : Nat, k ≤ r.length ∧ Kept (Rd B b s st z (false, r.drop k) wx) ∧ Kept (w.grownBy wx (some b)) ∧ Kept (R = (match Ppa.untilM a.data.toList (r.drop k) with | some (v, t) => ((false, t), r.take k ++ v) | none => ((true, []), []))) ∧ r.length - k ≤ g)
    case atStart => exact ⟨0, by omega, HH, ⟨World.grownBy.refl _ _⟩, ⟨by rw [← HR.out]; unfold untilS; rw [if_neg (by simp)]; rw [List.drop_zero, List.take_zero]; cases Ppa.untilM a.data.toList r with | none => rfl | some q => rfl⟩, by omega⟩
    case round =>
      obtain ⟨k, hk, HP, G, HF, hfu⟩ := hrel
      clear HR HH
      have d1 := HP.out.c1
      have d2 := HP.out.c2
      dsimp only at d1 d2
      have hlr : (r.drop k).length = r.length - k := List.length_drop
      rw [show s.size - (r.drop k).length = k0 + k by omega, show ((k0 + k : Nat) : Int) = (k0 : Int) + (k : Int) by omega] at d1
      have bx0 := beh_cell HP.out.c0
      have bx1 := beh_cell d1
      have i0 : (0 : Int) ≤ (k0 : Int) + (k : Int) := by omega
      have i1 : (k0 : Int) + (k : Int) ≤ 65536 := by omega
      have i2 : (0 : Int) ≤ (a.size : Int) := by omega
      have i3 : (a.size : Int) ≤ 100 := by omega
      have hdk : s.data.toList.drop (k0 + k) = r.drop k := by rw [← List.drop_drop, HD.out]
      by_cases hfit : a.size ≤ (r.drop k).length
      · have i4 : (k0 : Int) + (k : Int) + (a.size : Int) ≤ (s.size : Int) := by omega
        have i5 : (k0 : Int) + (k : Int) ≤ (k0 : Int) + (k : Int) + (a.size : Int) := by omega
        have hpe := pre_eq s a (k0 + k) a.size (r.drop k) hdk rfl
        have w1 : IntKind.i64.wrap ((k0 : Int) + (k : Int) + (a.size : Int)) = (k0 : Int) + (k : Int) + (a.size : Int) := IntWalk.i64_in _ (by omega)
        have t1 : ((k0 : Int) + (k : Int)).toNat = k0 + k := by omega
        have t2 : ((k0 : Int) + (k : Int) + (a.size : Int)).toNat = k0 + k + a.size := by omega
        cases hp : Lib.hasPrefix (r.drop k) a.data.toList with
        | true =>
          rw [hp] at hpe
          go_wp2
          refine wp_region_beh (by kernel_rfl) (by kernel_rfl) ?_
          repeat
            (refine Qw_step (fun K hK => ?_)
             go_simp
             first
               | (refine hK _ ?_; clear hK K)
               | (apply Exists.intro
                  refine ⟨fun _ => ?_, hK _ ?_⟩
                  (fail)
                  clear hK K))
          refine Qw_nil ?_
          rintro w5 ⟨⟨_, hb5⟩, rfl⟩
          have P5 := Kept.mk (HP.out.below hb5)
          have G5 := Kept.mk (G.out.trans (grown_of_below hb5 (some b)))
          have HX : Kept (R = ((false, (r.drop k).drop a.size), r.take k)) := ⟨by rw [HF.out, untilM_yes (by rw [HC.out]; simp) hp, size_len]; simp⟩
          have f0 := P5.out.c0
          have f1 := P5.out.c1
          have f2 := P5.out.unf 1
          dsimp only at f1
          rw [show s.size - (r.drop k).length = k0 + k by omega, show ((k0 + k : Nat) : Int) = (k0 : Int) + (k : Int) by omega] at f1
          have i6 : (0 : Int) ≤ (k0 : Int) := by omega
          have i7 : (k0 : Int) ≤ (k0 : Int) + (k : Int) := by omega
          have i8 : (k0 : Int) + (k : Int) ≤ (s.size : Int) := by omega
          have hX : (r.drop k).drop a.size <:+ r.drop k := List.drop_suffix _ _
          have hT : Pch.textsL ((r.drop k).drop a.size) = true := by
            have hpx := hp
            obtain ⟨z, hz⟩ := List.isPrefixOf_iff_prefix.1 hpx
            have ht := HP.out.tx
            dsimp only at ht
            rw [← hz] at ht ⊢
            rw [show a.size = a.data.toList.length by rw [size_len], List.drop_left]
            exact Ppa.texts_lit _ _ HL.out ht
          have hQ := P5.out.put (r' := (r.drop k).drop a.size) hX hT (y := (k0 : Int) + (k : Int) + (a.size : Int)) (by rw [List.length_drop]; omega)
          have HQ := Kept.mk hQ
          clear bx0 bx1 hb5 hQ hX hT
          go_wp2
          go_ret
          rw [HX.out]
          refine ⟨?_, HQ.out, grown_set G5.out 1 _⟩
          exact ret_str (by rw [extract_part, HD.out])
        | false =>
          rw [hp] at hpe
          have hpe2 : ¬ (s.extract (k0 + k) (k0 + k + a.size)).toList = a.toList := by simpa using hpe
          go_wp2
          refine wp_region_beh (by kernel_rfl) (by kernel_rfl) ?_
          repeat
            (refine Qw_step (fun K hK => ?_)
             go_simp
             first
               | (refine hK _ ?_; clear hK K)
               | (apply Exists.intro
                  refine ⟨fun _ => ?_, hK _ ?_⟩
                  (fail)
                  clear hK K))
          refine Qw_nil ?_
          rintro w5 ⟨⟨_, hb5⟩, rfl⟩
          have P5 := Kept.mk (HP.out.below hb5)
          have G5 := Kept.mk (G.out.trans (grown_of_below hb5 (some b)))
          have CL := Kept.mk (look_r P5.out)
          clear bx0 bx1 hb5
          by_cases hnil : r.drop k = []
          · have HX : Kept (R = ((true, []), [])) := ⟨by rw [HF.out, hnil, HC.out]; rfl⟩
            have hl0 : lk (false, r.drop k) = 0 := by rw [hnil, lk_nil]
            rw [hl0] at CL
            have HNIL := Kept.mk hnil
            clear hnil hl0
            go_wp2_with (first | (go_at_call 50; refine CL.out.mono ?_; rintro e w6 ⟨rfl, H6, hb6⟩; have P6 := Kept.mk H6; have G6 := Kept.mk (G5.out.trans (grown_of_below hb6 (some b))); clear H6 hb6) | (go_at_call 52; refine (no_r P6.out).mono ?_; rintro e w7 ⟨rfl, H7, hg7⟩; have G7 := Kept.mk (G6.out.trans hg7); clear hg7))
            go_ret
            rw [HX.out]
            rw [HNIL.out] at H7
            exact ⟨rfl, H7, G7.out⟩
          · have hpos := lk_pos hnil HP.out.tx
            have CT := Kept.mk (fun (W : World) (H : Rd B b s st z (false, r.drop k) W) => step_r H hnil)
            have hd := Lib.decodeL_width (r.drop k)
            have hd2 := Lib.decodeL_le (r.drop k) hnil
            have HF2 := Kept.mk HF.out
            rw [HC.out, untilM_char hcl hnil HP.out.tx (by rw [← HC.out]; exact hp)] at HF2
            unfold Ppa.skip at HF2 CT
            dsimp only at CT
            generalize (Lib.decodeL (r.drop k)).2 = d at hd hd2 HF2 CT
            rw [List.drop_drop] at HF2 CT
            have htk : r.take k ++ (r.drop k).take d = r.take (k + d) := by rw [List.take_add]
            obtain ⟨g, rfl⟩ : ∃ g, gk = g + 1 := ⟨gk - 1, by omega⟩
            have HF3 : Kept (R = (match Ppa.untilM a.data.toList (r.drop (k + d)) with | some (v, t) => ((false, t), r.take (k + d) ++ v) | none => ((true, []), []))) := ⟨by
              rw [HF2.out, HC.out]
              cases Ppa.untilM (c :: e0) (r.drop (k + d)) with
              | none => rfl
              | some q =>
                obtain ⟨v, t⟩ := q
                show ((false, t), r.take k ++ ((r.drop k).take d ++ v)) = ((false, t), r.take (k + d) ++ v)
                rw [← htk, List.append_assoc]⟩
            clear HF HF2 htk
            generalize lk (false, r.drop k) = C at CL hpos
            have e0' : ¬ (C : Int) = 0 := by omega
            have e1' : ((C : Int) == 0) = false := by simp; omega
            go_wp2_with (first | (go_at_call 50; refine CL.out.mono ?_; rintro e w6 ⟨rfl, H6, hb6⟩; have P6 := Kept.mk H6; have G6 := Kept.mk (G5.out.trans (grown_of_below hb6 (some b))); clear H6 hb6) | (go_at_call 51; refine (CT.out _ P6.out).mono ?_; rintro e w7 ⟨rfl, H7, hg7⟩; have P7 := Kept.mk H7; have G7 := Kept.mk (G6.out.trans hg7); clear H7 hg7))
            go_roundg g
            case measure => omega
            case rel => exact ⟨k + d, by omega, P7, G7, HF3, by omega⟩
      · have i4 : (s.size : Int) < (k0 : Int) + (k : Int) + (a.size : Int) := by omega
        have i9 : decide ((k0 : Int) + (k : Int) + (a.size : Int) ≤ (s.size : Int)) = false := by simpa using i4
        have w1 : IntKind.i64.wrap ((k0 : Int) + (k : Int) + (a.size : Int)) = (k0 : Int) + (k : Int) + (a.size : Int) := IntWalk.i64_in _ (by omega)
        have hp : Lib.hasPrefix (r.drop k) a.data.toList = false := by
          rw [Bool.eq_false_iff]
          intro h
          have := (List.isPrefixOf_iff_prefix.1 h).length_le
          rw [size_len] at this
          omega
        go_wp2
        refine wp_region_beh (by kernel_rfl) (by kernel_rfl) ?_
        repeat
          (refine Qw_step (fun K hK => ?_)
           go_simp
           first
             | (refine hK _ ?_; clear hK K)
             | (apply Exists.intro
                refine ⟨fun _ => ?_, hK _ ?_⟩
                (fail)
                clear hK K))
        refine Qw_nil ?_
        rintro w5 ⟨⟨_, hb5⟩, rfl⟩
        have P5 := Kept.mk (HP.out.below hb5)
        have G5 := Kept.mk (G.out.trans (grown_of_below hb5 (some b)))
        have CL := Kept.mk (look_r P5.out)
        clear bx0 bx1 hb5
        by_cases hnil : r.drop k = []
        · have HX : Kept (R = ((true, []), [])) := ⟨by rw [HF.out, hnil, HC.out]; rfl⟩
          have hl0 : lk (false, r.drop k) = 0 := by rw [hnil, lk_nil]
          rw [hl0] at CL
          have HNIL := Kept.mk hnil
          clear hnil hl0
          go_wp2_with (first | (go_at_call 50; refine CL.out.mono ?_; rintro e w6 ⟨rfl, H6, hb6⟩; have P6 := Kept.mk H6; have G6 := Kept.mk (G5.out.trans (grown_of_below hb6 (some b))); clear H6 hb6) | (go_at_call 52; refine (no_r P6.out).mono ?_; rintro e w7 ⟨rfl, H7, hg7⟩; have G7 := Kept.mk (G6.out.trans hg7); clear hg7))
          go_ret
          rw [HX.out]
          rw [HNIL.out] at H7
          exact ⟨rfl, H7, G7.out⟩
        · have hpos := lk_pos hnil HP.out.tx
          have CT := Kept.mk (fun (W : World) (H : Rd B b s st z (false, r.drop k) W) => step_r H hnil)
          have hd := Lib.decodeL_width (r.drop k)
          have hd2 := Lib.decodeL_le (r.drop k) hnil
          have HF2 := Kept.mk HF.out
          rw [HC.out, untilM_char hcl hnil HP.out.tx (by rw [← HC.out]; exact hp)] at HF2
          unfold Ppa.skip at HF2 CT
          dsimp only at CT
          generalize (Lib.decodeL (r.drop k)).2 = d at hd hd2 HF2 CT
          rw [List.drop_drop] at HF2 CT
          have htk : r.take k ++ (r.drop k).take d = r.take (k + d) := by rw [List.take_add]
          obtain ⟨g, rfl⟩ : ∃ g, gk = g + 1 := ⟨gk - 1, by omega⟩
          have HF3 : Kept (R = (match Ppa.untilM a.data.toList (r.drop (k + d)) with | some (v, t) => ((false, t), r.take (k + d) ++ v) | none => ((true, []), []))) := ⟨by
            rw [HF2.out, HC.out]
            cases Ppa.untilM (c :: e0) (r.drop (k + d)) with
            | none => rfl
            | some q =>
              obtain ⟨v, t⟩ := q
              show ((false, t), r.take k ++ ((r.drop k).take d ++ v)) = ((false, t), r.take (k + d) ++ v)
              rw [← htk, List.append_assoc]⟩
          clear HF HF2 htk
          generalize lk (false, r.drop k) = C at CL hpos
          have e0' : ¬ (C : Int) = 0 := by omega
          have e1' : ((C : Int) == 0) = false := by simp; omega
          go_wp2_with (first | (go_at_call 50; refine CL.out.mono ?_; rintro e w6 ⟨rfl, H6, hb6⟩; have P6 := Kept.mk H6; have G6 := Kept.mk (G5.out.trans (grown_of_below hb6 (some b))); clear H6 hb6) | (go_at_call 51; refine (CT.out _ P6.out).mono ?_; rintro e w7 ⟨rfl, H7, hg7⟩; have P7 := Kept.mk H7; have G7 := Kept.mk (G6.out.trans hg7); clear H7 hg7))
          go_roundg g
          case measure => omega
          case rel => exact ⟨k + d, by omega, P7, G7, HF3, by omega⟩
  · have hR : untilS a.data.toList (true, r) = ((true, r), []) := rfl
    rw [hR]
    have HH := Kept.mk h
    clear hR h hac hlow hll
    go_enter Tryz.func90, Tryz.ntmps90
    go_wp2
    go_loopg [6] 0 (fun g _ wx => wx = w)
    case atStart => rfl
    case round =>
      subst hrel
      go_wp2
      go_ret
      exact ⟨rfl, HH.out, World.grownBy.refl _ _⟩
end
end Go.Proofs.YtlemdhfekdiaeaaGreatDoor.Wrd
namespace Go.Proofs.YtlemdhfekdiaeaaGreatDoor.Wrd
open Go Go.RowKit Go.Proofs.YtlemdhfekdiaeaaGreatDoor.Kb Go.Proofs.YtlemdhfekdiaeaaGreatDoor.Wch Go.Proofs.YtlemdhfekdiaeaaGreatDoor.Wps Go.Proofs.YtlemdhfekdiaeaaGreatDoor.Emk Go.PlainAid

theorem byte_at (s : ByteArray) (k : Nat) (h : k < s.size) : s.data.toList[k]? = some s[k] := by
  rw [Array.getElem?_toList]
  show s.data[k]? = some s.data[k]
  exact Array.getElem?_eq_getElem h
theorem conv_own2 {w : World} {base n c : Nat} {A : Option Addr} (l : List UInt8) (h : w.ownsRow base 5 1 (.slice A n c) n (Lib.byteCells l)) (hn : l.length = n) : (convert 41 9 (.slice A n c)).run Tryz.prog w = .ok (.string ⟨l.toArray⟩) w := by
  rcases h.2 with ⟨e, h0⟩ | ⟨g, cap, cur, e, _⟩
  · cases e
    obtain rfl : l = [] := List.length_eq_zero_iff.1 (by omega)
    exact run_convert_bytes_nil w _ 5 Tryz.underlying41 Tryz.underlying5 _ _ _ Tryz.underlying9
  · cases e
    subst hn
    refine run_convert_bytes_back _ _ _ 5 _ c l Tryz.underlying41 Tryz.underlying5 Tryz.underlying9 (fun j hj => ?_)
    exact h.cells (g := g) rfl j _ (by simp [Lib.byteCells, List.getElem?_eq_getElem hj])
theorem said_ne {x : UInt8} (t : Ppa.Bs) (h : x ≠ 13) : Ppa.said (x :: t) = x :: Ppa.said t := by
  rw [Ppa.said]
  · intro u e1 _
    exact h e1
  · intro e1
    exact h e1
theorem said_crlf (t : Ppa.Bs) : Ppa.said (13 :: 10 :: t) = Ppa.said (10 :: t) := by
  rw [said_ne t (by decide)]
  rfl
theorem said_cr {y : UInt8} (t : Ppa.Bs) (h : y ≠ 10) : Ppa.said (13 :: y :: t) = 10 :: Ppa.said (y :: t) := by
  rw [Ppa.said]
  intro u e
  injection e with e
  exact h e
theorem drop_at (s : ByteArray) (k : Nat) (h : k < s.size) : s.data.toList.drop k = s[k] :: s.data.toList.drop (k + 1) := by
  have hl : k < s.data.toList.length := by rw [size_len]; exact h
  rw [List.drop_eq_getElem_cons hl]
  congr 1
set_option maxRecDepth 100000 in
set_option maxHeartbeats 4000000 in
theorem rsaid_any (s : ByteArray) (w : World) (hs : s.size ≤ 1000000) : Calls Tryz.prog 91 #[.string s] w fun e w' => e = .returned (.string ⟨(Ppa.said s.data.toList).toArray⟩) ∧ Below w.heap.size w w' := by
  obtain ⟨i0, hi, hz0, hz1, hz2⟩ := info_parts infoU
  obtain ⟨L, hL⟩ : ∃ L, Ppa.said s.data.toList = L := ⟨_, rfl⟩
  have HL := Kept.mk hL
  rw [hL]
  clear hL
  have HO : Kept (w.ownsRow w.heap.size 5 1 (.slice none 0 0) ([] : Ppa.Bs).length (Lib.byteCells [])) := ⟨World.ownsRow_nil _ _ _ _⟩
  have HA : Kept (Below w.heap.size w w) := ⟨Below.refl _ _⟩
  go_enter Tryz.func91, Tryz.ntmps91
  go_wp2
  go_loopw [3, 4] (fun v i wx => ∃ (k : Nat) (acc : Ppa.Bs), k ≤ s.size ∧ i = .int .i64 (k : Int) ∧ acc.length ≤ k ∧ Kept (acc ++ Ppa.said (s.data.toList.drop k) = L) ∧ Kept (wx.ownsRow w.heap.size 5 1 v acc.length (Lib.byteCells acc)) ∧ Kept (Below w.heap.size w wx)) (fun _ i _ => s.size - (intOf i).toNat)
  case atStart => exact ⟨0, [], by omega, rfl, Nat.le_refl _, HL, HO, HA⟩
  case round =>
    clear HO HA
    obtain ⟨k, acc, hk, rfl, hal, HT, HO, HB⟩ := hrel
    have k0 : (0 : Int) ≤ (k : Int) := by omega
    have k2 : (k : Int) ≤ 1000000 := by omega
    have hzb := HB.out.size
    by_cases hlt : k < s.size
    · have k1 : (k : Int) < (s.size : Int) := by omega
      have hdr := drop_at s k hlt
      have HT2 := HT.out
      rw [hdr] at HT2
      have HD := Kept.mk HT2
      clear HT HT2 hdr
      generalize hcc : s[k] = c at HD
      by_cases d13 : c.toNat = 13
      · have g : ((c.toNat : Nat) : Int) = 13 := by omega
        have hd : c = 13 := UInt8.toNat_inj.1 (by rw [d13]; rfl)
        subst hd
        by_cases hend : k + 1 < s.size
        · have k3 : (k : Int) + 1 < (s.size : Int) := by omega
          have k4 : ¬ (s.size : Int) ≤ (k : Int) + 1 := by omega
          have hdr := drop_at s (k + 1) hend
          have HD2 := HD.out
          rw [hdr] at HD2
          have HE := Kept.mk HD2
          have HDR := Kept.mk hdr
          clear HD HD2 hdr
          generalize hcy : s[k + 1] = y at HE HDR
          by_cases d10 : y.toNat = 10
          · have gy : ((y.toNat : Nat) : Int) = 10 := by omega
            have hdy : y = 10 := UInt8.toNat_inj.1 (by rw [d10]; rfl)
            subst hdy
            go_wp2
            go_roundw
            case rel => exact ⟨k + 1, acc, by omega, by go_num, by omega, ⟨by rw [HDR.out, ← HE.out, said_crlf]⟩, HO, HB⟩
            case measure => simp [intOf]; omega
          · have gy : (((y.toNat : Nat) : Int) == 10) = false := by simp; omega
            have gy2 : ¬ ((y.toNat : Nat) : Int) = 10 := by omega
            have ny : y ≠ 10 := fun e => d10 (by rw [e]; rfl)
            go_wp2_with (at_builtin; refine wpList_append_own _ rfl (.tmp 33) (.tmp 34) 41 rfl w.heap.size 5 i0 (.int .u8 0) 1 1 Tryz.underlying41 hi hz0 hz1 hz2 rfl (by decide) _ acc.length _ (by rfl) (HO.out.alloc _) ⟨wr.heap.size, 0, none⟩ 1 1 [.int .u8 10] (by rfl) (by rfl) (World.news_of_block (heap_alloc_new _ _)) (by intro u hu; simp at hu; subst hu; rfl) (by unfold maxLen; omega) (by omega) (by simp; omega) ?_; intro v5 w5 hown5 hgrow5 _; have hb5 := Below.grown (HB.out.alloc hzb _) hgrow5 (by simp; omega) (fun q hq => (HO.out.lt q hq).1); have O5 := Kept.mk hown5; have B5 := Kept.mk hb5; clear hown5 hgrow5 hb5)
            go_roundw
            case rel => exact ⟨k + 1, acc ++ [10], by omega, by go_num, by simp; omega, ⟨by rw [HDR.out, ← HE.out, said_cr _ ny]; simp⟩, ⟨by rw [Lib.byteCells_append, List.length_append]; exact O5.out⟩, B5⟩
            case measure => simp [intOf]; omega
        · have k4 : (s.size : Int) ≤ (k : Int) + 1 := by omega
          have hnil : s.data.toList.drop (k + 1) = [] := List.drop_eq_nil_of_le (by rw [size_len]; omega)
          have HNIL := Kept.mk hnil
          clear hnil
          go_wp2_with (at_builtin; refine wpList_append_own _ rfl (.tmp 33) (.tmp 34) 41 rfl w.heap.size 5 i0 (.int .u8 0) 1 1 Tryz.underlying41 hi hz0 hz1 hz2 rfl (by decide) _ acc.length _ (by rfl) (HO.out.alloc _) ⟨wr.heap.size, 0, none⟩ 1 1 [.int .u8 10] (by rfl) (by rfl) (World.news_of_block (heap_alloc_new _ _)) (by intro u hu; simp at hu; subst hu; rfl) (by unfold maxLen; omega) (by omega) (by simp; omega) ?_; intro v5 w5 hown5 hgrow5 _; have hb5 := Below.grown (HB.out.alloc hzb _) hgrow5 (by simp; omega) (fun q hq => (HO.out.lt q hq).1); have O5 := Kept.mk hown5; have B5 := Kept.mk hb5; clear hown5 hgrow5 hb5)
          go_roundw
          case rel => exact ⟨k + 1, acc ++ [10], by omega, by go_num, by simp; omega, ⟨by rw [← HD.out, HNIL.out]; show (acc ++ [10]) ++ [] = acc ++ [10]; simp⟩, ⟨by rw [Lib.byteCells_append, List.length_append]; exact O5.out⟩, B5⟩
          case measure => simp [intOf]; omega
      · have g : (((c.toNat : Nat) : Int) == 13) = false := by simp; omega
        have g2 : ¬ ((c.toNat : Nat) : Int) = 13 := by omega
        have nc : c ≠ 13 := fun e => d13 (by rw [e]; rfl)
        go_wp2_with (at_builtin; refine wpList_append_own _ rfl (.tmp 15) (.tmp 19) 41 rfl w.heap.size 5 i0 (.int .u8 0) 1 1 Tryz.underlying41 hi hz0 hz1 hz2 rfl (by decide) _ acc.length _ (by rfl) (HO.out.alloc _) ⟨wr.heap.size, 0, none⟩ 1 1 [.int .u8 (c.toNat : Int)] (by rfl) (by rfl) (World.news_of_block (heap_alloc_new _ _)) (by intro u hu; simp at hu; subst hu; rfl) (by unfold maxLen; omega) (by omega) (by simp; omega) ?_; intro v5 w5 hown5 hgrow5 _; have hb5 := Below.grown (HB.out.alloc hzb _) hgrow5 (by simp; omega) (fun q hq => (HO.out.lt q hq).1); have O5 := Kept.mk hown5; have B5 := Kept.mk hb5; clear hown5 hgrow5 hb5)
        go_roundw
        case rel => exact ⟨k + 1, acc ++ [c], by omega, by go_num, by simp; omega, ⟨by rw [← HD.out, said_ne _ nc]; simp⟩, ⟨by rw [Lib.byteCells_append, List.length_append]; exact O5.out⟩, B5⟩
        case measure => simp [intOf]; omega
    · obtain rfl : k = s.size := by omega
      have hnil : s.data.toList.drop s.size = [] := List.drop_eq_nil_of_le (by rw [size_len]; exact Nat.le_refl _)
      obtain ⟨A5, c5, rfl, _⟩ := Flt.own_slice HO.out
      have hcv := conv_own2 _ HO.out rfl
      have HX : Kept (acc = L) := ⟨by rw [← HT.out, hnil]; exact (List.append_nil acc).symm⟩
      clear hnil
      go_wp2
      go_ret
      exact ⟨by rw [HX.out]; rfl, HB.out⟩
theorem ret_i64 {a b : Int} (h : a = b) : Ending.returned (.int .i64 a) = .returned (.int .i64 b) := by rw [h]
theorem rdigit_any (hex : Bool) (c : Int) (w : World) (hc : 0 ≤ c) (hc2 : c ≤ 1114111) :
    Calls Tryz.prog 127 #[.int .i32 c, .int .i64 (if hex = true then 16 else 10)] w fun e w' => e = .returned (.int .i64 (digI hex c)) ∧ w = w' := by
  generalize hD : digI hex c = D
  have HD := Kept.mk hD
  clear hD
  cases hex
  · simp only [Bool.false_eq_true, if_false]
    go_enter Tryz.func127, Tryz.ntmps127
    go_wp2
    all_goals
      go_ret
      exact ⟨ret_i64 (by rw [← HD.out]; unfold digI; simp only [Bool.false_eq_true, false_and, if_false]; (repeat' split) <;> omega), rfl⟩
  · simp only [if_true]
    go_enter Tryz.func127, Tryz.ntmps127
    go_wp2
    all_goals
      go_ret
      exact ⟨ret_i64 (by rw [← HD.out]; unfold digI; simp only [true_and]; (repeat' split) <;> omega), rfl⟩
theorem digI_lk (hex : Bool) (r : Ppa.Bs) : digI hex (lk (false, r) : Int) = digI hex (Ppa.peek r) := by
  by_cases h : r = []
  · subst h
    rw [lk_nil]
    cases hex <;> rfl
  · rw [lk_peek h]
theorem is59_lk (r : Ppa.Bs) : (lk (false, r) : Int) = 59 ↔ Ppa.peek r = 59 := by
  by_cases h : r = []
  · subst h
    rw [lk_nil]
    decide
  · rw [lk_peek h]
theorem isS_yes {c : UInt8} {n : Nat} (hn : c.toNat = n) (hc : c.toNat < 128) (t : Ppa.Bs) : lk (false, c :: t) = n ∧ isS n (false, c :: t) = (false, t) := by
  have e1 : lk (false, c :: t) = n := by rw [lk_low c t hc, hn]
  exact ⟨e1, by unfold isS; rw [if_pos e1, skip_low c t hc]⟩
theorem isS_no {c : UInt8} {n : Nat} (hn : c.toNat = n) (hc : c.toNat < 128) (h0 : 0 < n) {r : Ppa.Bs} (h : r.head? ≠ some c) : ¬ lk (false, r) = n ∧ isS n (false, r) = (false, r) := by
  have e1 : ¬ lk (false, r) = n := fun e => h ((lk_is c hc (by omega) r).1 (by rw [e, hn]))
  exact ⟨e1, by unfold isS; rw [if_neg e1]⟩
theorem isS_bad {n : Nat} (h0 : 0 < n) (r : Ppa.Bs) : ¬ lk (true, r) = n ∧ isS n (true, r) = (true, r) := by
  have e1 : ¬ lk (true, r) = n := by rw [lk_bad]; omega
  exact ⟨e1, by unfold isS; rw [if_neg e1]⟩
theorem lk_le (σ : Sg) : lk σ ≤ 1114111 := by
  unfold lk
  split
  · omega
  · exact Lib.decodeL_rune _
theorem enc_list (n : Nat) (h : Pch.charB n = true) : (Utf8.encode (n : Int)).data.toList = Lib.encodeRune (n : Int) := by
  rw [Pch.charB_iff] at h
  have hv : Utf8.valid (n : Int) = true := by
    simp only [Utf8.valid, Bool.and_eq_true, Bool.or_eq_true, decide_eq_true_eq]
    omega
  unfold Utf8.encode
  simp only [hv, if_true, Int.toNat_natCast]
  by_cases a : n < 128
  · rw [if_pos a]
    unfold Lib.encodeRune
    rw [Lib.encodeRuneZ_one (by omega) (by omega)]
    simp
  rw [if_neg a]
  by_cases b : n < 2048
  · rw [if_pos b]
    unfold Lib.encodeRune
    rw [Lib.encodeRuneZ_two (by omega) (by omega)]
    simp only [List.map_cons, List.map_nil]
    congr 2
  rw [if_neg b]
  by_cases c : n < 65536
  · rw [if_pos c]
    unfold Lib.encodeRune
    rw [Lib.encodeRuneZ_three (by omega)]
    simp only [List.map_cons, List.map_nil]
    congr 2
  rw [if_neg c]
  unfold Lib.encodeRune
  rw [Lib.encodeRuneZ_four (by omega) (by omega)]
  simp only [List.map_cons, List.map_nil]
  congr 2
/-- behind a character's digits -/
def numT (hex : Bool) (n : Nat) (any : Bool) (r : Ppa.Bs) : Sg × Ppa.Bs := match Ppa.numG hex n any r with | .ok (m, t) => ((false, t), Lib.encodeRune m) | .error t => ((true, t), [])
/-- behind a number -/
def numX (r : Ppa.Bs) : Sg × Ppa.Bs := match Ppa.numM r with | .ok (m, t) => ((false, t), Lib.encodeRune m) | .error t => ((true, t), [])
section
variable {B b : Nat} {s : ByteArray} {st : Ppa.St} {z : Option Addr × Nat × Value} {σ : Sg} {w : World}
set_option maxRecDepth 100000 in
set_option maxHeartbeats 4000000 in
theorem number_r {r : Ppa.Bs} (h : Rd B b s st z (false, r) w) : Calls Tryz.prog 98 #[.pointer (some ⟨b, 0, none⟩)] w fun e w' => e = .returned (.string ⟨(numX r).2.toArray⟩) ∧ Rd B b s st z (numX r).1 w' ∧ w.grownBy w' (some b) := by
  have CI := Kept.mk (is_r 120 (by decide) h)
  obtain ⟨hex, r0, hr0, hnum, hdec, hlen⟩ : ∃ (hex : Bool) (r0 : Ppa.Bs), isS 120 (false, r) = (false, r0) ∧ Ppa.numM r = Ppa.numG hex 0 false r0 ∧ decide (lk (false, r) = 120) = hex ∧ r0.length ≤ r.length := by
    by_cases hx : r.head? = some 120
    · obtain ⟨t, rfl⟩ := head_cons hx
      have e := isS_yes (c := 120) (n := 120) rfl (by decide) t
      exact ⟨true, t, e.2, rfl, decide_eq_true e.1, by simp⟩
    · have e := isS_no (c := 120) (n := 120) rfl (by decide) (by decide) hx
      refine ⟨false, r, e.2, ?_, decide_eq_false e.1, Nat.le_refl _⟩
      unfold Ppa.numM
      split
      · exact absurd rfl hx
      · rfl
  rw [hr0, hdec] at CI
  have hs9 := h.small
  have hll := h.len
  dsimp only at hll
  have hT : numX r = numT hex 0 (decide (0 < 0)) r0 := by unfold numX numT; rw [hnum]; rfl
  generalize numX r = T at hT
  have HT := Kept.mk hT
  have HTT : Kept True := ⟨trivial⟩
  clear hr0 hnum hdec h hT
  cases hex
  · go_enter Tryz.func98, Tryz.ntmps98
    go_wp2_with (go_at_call 53; refine CI.out.mono ?_; rintro e w1 ⟨rfl, H1, hg1⟩; have P1 := Kept.mk H1; have G1 := Kept.mk hg1; clear H1 hg1)
    go_loopg [4, 5, 6, 7] r0.length (fun g n4 c5 _ _ wx => ∃ (n cnt : Nat) (r' : Ppa.Bs), n4 = .int .i64 (n : Int) ∧ c5 = .int .i64 (cnt : Int) ∧ Kept (Rd B b s st z (false, r') wx) ∧ Kept (w.grownBy wx (some b)) ∧ Kept (T = numT false n (decide (0 < cnt)) r') ∧ n ≤ 1114111 ∧ r'.length ≤ g ∧ cnt + r'.length = r0.length)
    case atStart => exact ⟨0, 0, r0, rfl, rfl, P1, G1, HT, by omega, Nat.le_refl _, by omega⟩
    case round =>
      obtain ⟨n, cnt, r', rfl, rfl, HP, G, HE, hn, hle, hcnt⟩ := hrel
      clear CI P1 G1 HT HTT
      have n0 : (0 : Int) ≤ (n : Int) := by omega
      have n1 : (n : Int) ≤ 1114111 := by omega
      have c0 : (0 : Int) ≤ (cnt : Int) := by omega
      have c1 : (cnt : Int) ≤ 65536 := by omega
      have bd := HP.out.c2
      dsimp only at bd
      have CL := Kept.mk (look_r HP.out)
      have hlk := lk_le (false, r')
      have CD := Kept.mk (fun W => rdigit_any false (lk (false, r') : Int) W (by omega) (by omega))
      have h59 := is59_lk r'
      rw [digI_lk, digI_peek] at CD
      simp only [Bool.false_eq_true, if_false] at CD
      generalize hC : lk (false, r') = C at CL CD h59 hlk
      have HC := Kept.mk hC
      clear hC
      cases hd : digO false r' with
      | some d =>
        rw [hd] at CD
        have hd15 := digO_lt hd
        obtain ⟨y, t, rfl⟩ := digO_ne hd
        have hlow := digO_low hd
        have HE2 := HE.out
        unfold numT at HE2
        rw [numG_more hd] at HE2
        simp only [Bool.false_eq_true, if_false] at HE2
        have d0 : (0 : Int) ≤ (d : Int) := by omega
        have d1 : (d : Int) ≤ 15 := by omega
        have CT := Kept.mk (fun (W : World) (H : Rd B b s st z (false, y :: t) W) => step_r H (by simp))
        dsimp only at CT
        rw [skip_low y t hlow] at CT
        obtain ⟨N, hN⟩ : ∃ N, n * 10 + d = N := ⟨_, rfl⟩
        have hNi : (n : Int) * 10 + (d : Int) = (N : Int) := by omega
        rw [hN] at HE2
        dsimp only at CD
        clear hd h59 HE
        obtain ⟨g, rfl⟩ : ∃ g, gk = g + 1 := ⟨gk - 1, by simp at hle; omega⟩
        by_cases hbig : 1114111 < N
        · rw [if_pos hbig] at HE2
          have HX : Kept (T = ((true, y :: t), [])) := ⟨HE2⟩
          have b1 : (1114111 : Int) < (n : Int) * 10 + (d : Int) := by omega
          clear HE2 hNi hN
          go_wp2_with (first | (go_at_call 50; refine CL.out.mono ?_; rintro e w2 ⟨rfl, H2, hb2⟩; have P2 := Kept.mk H2; have G2 := Kept.mk (G.out.trans (grown_of_below hb2 (some b))); clear H2 hb2) | (go_at_call 127; refine (CD.out _).mono ?_; rintro e w3 ⟨rfl, rfl⟩) | (go_at_call 52; refine (no_r P2.out).mono ?_; rintro e w4 ⟨rfl, H4, hg4⟩; have P4 := Kept.mk H4; have G4 := Kept.mk (G2.out.trans hg4); clear H4 hg4))
          go_ret
          exact ⟨by rw [HX.out]; rfl, by rw [HX.out]; exact P4.out, G4.out⟩
        · rw [if_neg hbig] at HE2
          have HX : Kept (T = numT false N (decide (0 < cnt + 1)) t) := ⟨by rw [HE2, decide_eq_true (by omega)]; rfl⟩
          have b1 : ¬ (1114111 : Int) < (n : Int) * 10 + (d : Int) := by omega
          have HN := Kept.mk hNi
          clear HE2 hNi hN
          go_wp2_with (first | (go_at_call 50; refine CL.out.mono ?_; rintro e w2 ⟨rfl, H2, hb2⟩; have P2 := Kept.mk H2; have G2 := Kept.mk (G.out.trans (grown_of_below hb2 (some b))); clear H2 hb2) | (go_at_call 127; refine (CD.out _).mono ?_; rintro e w3 ⟨rfl, rfl⟩) | (go_at_call 51; refine (CT.out _ P2.out).mono ?_; rintro e w4 ⟨rfl, H4, hg4⟩; have P4 := Kept.mk H4; have G4 := Kept.mk (G2.out.trans hg4); clear H4 hg4))
          go_roundg g
          case measure => omega
          case rel => exact ⟨N, cnt + 1, t, by rw [HN.out], by go_num, P4, G4, HX, by omega, by simp at hle; omega, by simp at hcnt; omega⟩
      | none =>
        rw [hd] at CD
        dsimp only at CD
        have HE2 := HE.out
        unfold numT at HE2
        rw [numG_end hd] at HE2
        clear hd HE
        have CH := Kept.mk (fun W => refChar_any (n : Int) W)
        by_cases hbad : decide (0 < cnt) = false ∨ Ppa.peek r' ≠ 59 ∨ Pch.charB n = false
        · rw [if_pos hbad] at HE2
          have HX : Kept (T = ((true, r'), [])) := ⟨HE2⟩
          clear HE2
          by_cases q1 : Ppa.peek r' = 59
          · have e59 := h59.2 q1
            by_cases q2 : 0 < cnt
            · have e2 : ¬ (cnt : Int) = 0 := by omega
              have e3 : Pch.charB (n : Int) = false := by
                rcases hbad with h | h | h
                · simp at h; omega
                · exact absurd q1 h
                · exact h
              rw [e3] at CH
              rw [e59] at CL CD
              clear h59 hbad q1
              go_wp2_with (first | (go_at_call 50; refine CL.out.mono ?_; rintro e w2 ⟨rfl, H2, hb2⟩; have P2 := Kept.mk H2; have G2 := Kept.mk (G.out.trans (grown_of_below hb2 (some b))); clear H2 hb2) | (go_at_call 127; refine (CD.out _).mono ?_; rintro e w3 ⟨rfl, rfl⟩) | (go_at_call 85; refine (CH.out _).mono ?_; rintro e w5 ⟨rfl, rfl⟩) | (go_at_call 52; refine (no_r P2.out).mono ?_; rintro e w4 ⟨rfl, H4, hg4⟩; have P4 := Kept.mk H4; have G4 := Kept.mk (G2.out.trans hg4); clear H4 hg4))
              go_ret
              exact ⟨by rw [HX.out]; rfl, by rw [HX.out]; exact P4.out, G4.out⟩
            · obtain rfl : cnt = 0 := by omega
              rw [e59] at CL CD
              clear h59 hbad q1
              go_wp2_with (first | (go_at_call 50; refine CL.out.mono ?_; rintro e w2 ⟨rfl, H2, hb2⟩; have P2 := Kept.mk H2; have G2 := Kept.mk (G.out.trans (grown_of_below hb2 (some b))); clear H2 hb2) | (go_at_call 127; refine (CD.out _).mono ?_; rintro e w3 ⟨rfl, rfl⟩) | (go_at_call 85; refine (CH.out _).mono ?_; rintro e w5 ⟨rfl, rfl⟩) | (go_at_call 52; refine (no_r P2.out).mono ?_; rintro e w4 ⟨rfl, H4, hg4⟩; have P4 := Kept.mk H4; have G4 := Kept.mk (G2.out.trans hg4); clear H4 hg4))
              go_ret
              exact ⟨by rw [HX.out]; rfl, by rw [HX.out]; exact P4.out, G4.out⟩
          · have e59 : ¬ (C : Int) = 59 := fun e => q1 (h59.1 e)
            have e59' : ((C : Int) != 59) = true := by simpa using e59
            clear h59 hbad q1
            go_wp2_with (first | (go_at_call 50; refine CL.out.mono ?_; rintro e w2 ⟨rfl, H2, hb2⟩; have P2 := Kept.mk H2; have G2 := Kept.mk (G.out.trans (grown_of_below hb2 (some b))); clear H2 hb2) | (go_at_call 127; refine (CD.out _).mono ?_; rintro e w3 ⟨rfl, rfl⟩) | (go_at_call 85; refine (CH.out _).mono ?_; rintro e w5 ⟨rfl, rfl⟩) | (go_at_call 52; refine (no_r P2.out).mono ?_; rintro e w4 ⟨rfl, H4, hg4⟩; have P4 := Kept.mk H4; have G4 := Kept.mk (G2.out.trans hg4); clear H4 hg4))
            go_ret
            exact ⟨by rw [HX.out]; rfl, by rw [HX.out]; exact P4.out, G4.out⟩
        · rw [if_neg hbad] at HE2
          have q1 : Ppa.peek r' = 59 := Classical.byContradiction fun h => hbad (.inr (.inl h))
          have q2 : 0 < cnt := Classical.byContradiction fun h => hbad (.inl (by simp; omega))
          have q3 : Pch.charB (n : Int) = true := by
            cases hcb : Pch.charB (n : Int) with
            | true => rfl
            | false => exact absurd (.inr (.inr hcb)) hbad
          have e59 := h59.2 q1
          have e2 : ¬ (cnt : Int) = 0 := by omega
          obtain ⟨t, rfl⟩ := head_cons ((peek_is 59 (by decide) r').1 q1)
          have HX : Kept (T = ((false, t), Lib.encodeRune n)) := ⟨HE2⟩
          have CT := Kept.mk (fun (W : World) (H : Rd B b s st z (false, 59 :: t) W) => step_r H (by simp))
          dsimp only at CT
          rw [skip_low 59 t (by decide)] at CT
          rw [q3] at CH
          rw [e59] at CL CD
          have HEN := Kept.mk (enc_list n q3)
          clear h59 hbad q1 q3 HE2
          go_wp2_with (first | (go_at_call 50; refine CL.out.mono ?_; rintro e w2 ⟨rfl, H2, hb2⟩; have P2 := Kept.mk H2; have G2 := Kept.mk (G.out.trans (grown_of_below hb2 (some b))); clear H2 hb2) | (go_at_call 127; refine (CD.out _).mono ?_; rintro e w3 ⟨rfl, rfl⟩) | (go_at_call 85; refine (CH.out _).mono ?_; rintro e w5 ⟨rfl, rfl⟩) | (go_at_call 51; refine (CT.out _ P2.out).mono ?_; rintro e w4 ⟨rfl, H4, hg4⟩; have P4 := Kept.mk H4; have G4 := Kept.mk (G2.out.trans hg4); clear H4 hg4))
          go_ret
          exact ⟨by rw [HX.out]; exact ret_str (by rw [← HEN.out]), by rw [HX.out]; exact P4.out, G4.out⟩
  · go_enter Tryz.func98, Tryz.ntmps98
    go_wp2_with (go_at_call 53; refine CI.out.mono ?_; rintro e w1 ⟨rfl, H1, hg1⟩; have P1 := Kept.mk H1; have G1 := Kept.mk hg1; clear H1 hg1)
    go_loopg [4, 5, 6, 7] r0.length (fun g n4 c5 _ _ wx => ∃ (n cnt : Nat) (r' : Ppa.Bs), n4 = .int .i64 (n : Int) ∧ c5 = .int .i64 (cnt : Int) ∧ Kept (Rd B b s st z (false, r') wx) ∧ Kept (w.grownBy wx (some b)) ∧ Kept (T = numT true n (decide (0 < cnt)) r') ∧ n ≤ 1114111 ∧ r'.length ≤ g ∧ cnt + r'.length = r0.length)
    case atStart => exact ⟨0, 0, r0, rfl, rfl, P1, G1, HT, by omega, Nat.le_refl _, by omega⟩
    case round =>
      obtain ⟨n, cnt, r', rfl, rfl, HP, G, HE, hn, hle, hcnt⟩ := hrel
      clear CI P1 G1 HT HTT
      have n0 : (0 : Int) ≤ (n : Int) := by omega
      have n1 : (n : Int) ≤ 1114111 := by omega
      have c0 : (0 : Int) ≤ (cnt : Int) := by omega
      have c1 : (cnt : Int) ≤ 65536 := by omega
      have bd := HP.out.c2
      dsimp only at bd
      have CL := Kept.mk (look_r HP.out)
      have hlk := lk_le (false, r')
      have CD := Kept.mk (fun W => rdigit_any true (lk (false, r') : Int) W (by omega) (by omega))
      have h59 := is59_lk r'
      rw [digI_lk, digI_peek] at CD
      simp only [if_true] at CD
      generalize hC : lk (false, r') = C at CL CD h59 hlk
      have HC := Kept.mk hC
      clear hC
      cases hd : digO true r' with
      | some d =>
        rw [hd] at CD
        have hd15 := digO_lt hd
        obtain ⟨y, t, rfl⟩ := digO_ne hd
        have hlow := digO_low hd
        have HE2 := HE.out
        unfold numT at HE2
        rw [numG_more hd] at HE2
        simp only [if_true] at HE2
        have d0 : (0 : Int) ≤ (d : Int) := by omega
        have d1 : (d : Int) ≤ 15 := by omega
        have CT := Kept.mk (fun (W : World) (H : Rd B b s st z (false, y :: t) W) => step_r H (by simp))
        dsimp only at CT
        rw [skip_low y t hlow] at CT
        obtain ⟨N, hN⟩ : ∃ N, n * 16 + d = N := ⟨_, rfl⟩
        have hNi : (n : Int) * 16 + (d : Int) = (N : Int) := by omega
        rw [hN] at HE2
        dsimp only at CD
        clear hd h59 HE
        obtain ⟨g, rfl⟩ : ∃ g, gk = g + 1 := ⟨gk - 1, by simp at hle; omega⟩
        by_cases hbig : 1114111 < N
        · rw [if_pos hbig] at HE2
          have HX : Kept (T = ((true, y :: t), [])) := ⟨HE2⟩
          have b1 : (1114111 : Int) < (n : Int) * 16 + (d : Int) := by omega
          clear HE2 hNi hN
          go_wp2_with (first | (go_at_call 50; refine CL.out.mono ?_; rintro e w2 ⟨rfl, H2, hb2⟩; have P2 := Kept.mk H2; have G2 := Kept.mk (G.out.trans (grown_of_below hb2 (some b))); clear H2 hb2) | (go_at_call 127; refine (CD.out _).mono ?_; rintro e w3 ⟨rfl, rfl⟩) | (go_at_call 52; refine (no_r P2.out).mono ?_; rintro e w4 ⟨rfl, H4, hg4⟩; have P4 := Kept.mk H4; have G4 := Kept.mk (G2.out.trans hg4); clear H4 hg4))
          go_ret
          exact ⟨by rw [HX.out]; rfl, by rw [HX.out]; exact P4.out, G4.out⟩
        · rw [if_neg hbig] at HE2
          have HX : Kept (T = numT true N (decide (0 < cnt + 1)) t) := ⟨by rw [HE2, decide_eq_true (by omega)]; rfl⟩
          have b1 : ¬ (1114111 : Int) < (n : Int) * 16 + (d : Int) := by omega
          have HN := Kept.mk hNi
          clear HE2 hNi hN
          go_wp2_with (first | (go_at_call 50; refine CL.out.mono ?_; rintro e w2 ⟨rfl, H2, hb2⟩; have P2 := Kept.mk H2; have G2 := Kept.mk (G.out.trans (grown_of_below hb2 (some b))); clear H2 hb2) | (go_at_call 127; refine (CD.out _).mono ?_; rintro e w3 ⟨rfl, rfl⟩) | (go_at_call 51; refine (CT.out _ P2.out).mono ?_; rintro e w4 ⟨rfl, H4, hg4⟩; have P4 := Kept.mk H4; have G4 := Kept.mk (G2.out.trans hg4); clear H4 hg4))
          go_roundg g
          case measure => omega
          case rel => exact ⟨N, cnt + 1, t, by rw [HN.out], by go_num, P4, G4, HX, by omega, by simp at hle; omega, by simp at hcnt; omega⟩
      | none =>
        rw [hd] at CD
        dsimp only at CD
        have HE2 := HE.out
        unfold numT at HE2
        rw [numG_end hd] at HE2
        clear hd HE
        have CH := Kept.mk (fun W => refChar_any (n : Int) W)
        by_cases hbad : decide (0 < cnt) = false ∨ Ppa.peek r' ≠ 59 ∨ Pch.charB n = false
        · rw [if_pos hbad] at HE2
          have HX : Kept (T = ((true, r'), [])) := ⟨HE2⟩
          clear HE2
          by_cases q1 : Ppa.peek r' = 59
          · have e59 := h59.2 q1
            by_cases q2 : 0 < cnt
            · have e2 : ¬ (cnt : Int) = 0 := by omega
              have e3 : Pch.charB (n : Int) = false := by
                rcases hbad with h | h | h
                · simp at h; omega
                · exact absurd q1 h
                · exact h
              rw [e3] at CH
              rw [e59] at CL CD
              clear h59 hbad q1
              go_wp2_with (first | (go_at_call 50; refine CL.out.mono ?_; rintro e w2 ⟨rfl, H2, hb2⟩; have P2 := Kept.mk H2; have G2 := Kept.mk (G.out.trans (grown_of_below hb2 (some b))); clear H2 hb2) | (go_at_call 127; refine (CD.out _).mono ?_; rintro e w3 ⟨rfl, rfl⟩) | (go_at_call 85; refine (CH.out _).mono ?_; rintro e w5 ⟨rfl, rfl⟩) | (go_at_call 52; refine (no_r P2.out).mono ?_; rintro e w4 ⟨rfl, H4, hg4⟩; have P4 := Kept.mk H4; have G4 := Kept.mk (G2.out.trans hg4); clear H4 hg4))
              go_ret
              exact ⟨by rw [HX.out]; rfl, by rw [HX.out]; exact P4.out, G4.out⟩
            · obtain rfl : cnt = 0 := by omega
              rw [e59] at CL CD
              clear h59 hbad q1
              go_wp2_with (first | (go_at_call 50; refine CL.out.mono ?_; rintro e w2 ⟨rfl, H2, hb2⟩; have P2 := Kept.mk H2; have G2 := Kept.mk (G.out.trans (grown_of_below hb2 (some b))); clear H2 hb2) | (go_at_call 127; refine (CD.out _).mono ?_; rintro e w3 ⟨rfl, rfl⟩) | (go_at_call 85; refine (CH.out _).mono ?_; rintro e w5 ⟨rfl, rfl⟩) | (go_at_call 52; refine (no_r P2.out).mono ?_; rintro e w4 ⟨rfl, H4, hg4⟩; have P4 := Kept.mk H4; have G4 := Kept.mk (G2.out.trans hg4); clear H4 hg4))
              go_ret
              exact ⟨by rw [HX.out]; rfl, by rw [HX.out]; exact P4.out, G4.out⟩
          · have e59 : ¬ (C : Int) = 59 := fun e => q1 (h59.1 e)
            have e59' : ((C : Int) != 59) = true := by simpa using e59
            clear h59 hbad q1
            go_wp2_with (first | (go_at_call 50; refine CL.out.mono ?_; rintro e w2 ⟨rfl, H2, hb2⟩; have P2 := Kept.mk H2; have G2 := Kept.mk (G.out.trans (grown_of_below hb2 (some b))); clear H2 hb2) | (go_at_call 127; refine (CD.out _).mono ?_; rintro e w3 ⟨rfl, rfl⟩) | (go_at_call 85; refine (CH.out _).mono ?_; rintro e w5 ⟨rfl, rfl⟩) | (go_at_call 52; refine (no_r P2.out).mono ?_; rintro e w4 ⟨rfl, H4, hg4⟩; have P4 := Kept.mk H4; have G4 := Kept.mk (G2.out.trans hg4); clear H4 hg4))
            go_ret
            exact ⟨by rw [HX.out]; rfl, by rw [HX.out]; exact P4.out, G4.out⟩
        · rw [if_neg hbad] at HE2
          have q1 : Ppa.peek r' = 59 := Classical.byContradiction fun h => hbad (.inr (.inl h))
          have q2 : 0 < cnt := Classical.byContradiction fun h => hbad (.inl (by simp; omega))
          have q3 : Pch.charB (n : Int) = true := by
            cases hcb : Pch.charB (n : Int) with
            | true => rfl
            | false => exact absurd (.inr (.inr hcb)) hbad
          have e59 := h59.2 q1
          have e2 : ¬ (cnt : Int) = 0 := by omega
          obtain ⟨t, rfl⟩ := head_cons ((peek_is 59 (by decide) r').1 q1)
          have HX : Kept (T = ((false, t), Lib.encodeRune n)) := ⟨HE2⟩
          have CT := Kept.mk (fun (W : World) (H : Rd B b s st z (false, 59 :: t) W) => step_r H (by simp))
          dsimp only at CT
          rw [skip_low 59 t (by decide)] at CT
          rw [q3] at CH
          rw [e59] at CL CD
          have HEN := Kept.mk (enc_list n q3)
          clear h59 hbad q1 q3 HE2
          go_wp2_with (first | (go_at_call 50; refine CL.out.mono ?_; rintro e w2 ⟨rfl, H2, hb2⟩; have P2 := Kept.mk H2; have G2 := Kept.mk (G.out.trans (grown_of_below hb2 (some b))); clear H2 hb2) | (go_at_call 127; refine (CD.out _).mono ?_; rintro e w3 ⟨rfl, rfl⟩) | (go_at_call 85; refine (CH.out _).mono ?_; rintro e w5 ⟨rfl, rfl⟩) | (go_at_call 51; refine (CT.out _ P2.out).mono ?_; rintro e w4 ⟨rfl, H4, hg4⟩; have P4 := Kept.mk H4; have G4 := Kept.mk (G2.out.trans hg4); clear H4 hg4))
          go_ret
          exact ⟨by rw [HX.out]; exact ret_str (by rw [← HEN.out]), by rw [HX.out]; exact P4.out, G4.out⟩
end
end Go.Proofs.YtlemdhfekdiaeaaGreatDoor.Wrd
namespace Go.Proofs.YtlemdhfekdiaeaaGreatDoor.Wrd
open Go Go.RowKit Go.Proofs.YtlemdhfekdiaeaaGreatDoor.Kb Go.Proofs.YtlemdhfekdiaeaaGreatDoor.Wch Go.Proofs.YtlemdhfekdiaeaaGreatDoor.Wps Go.Proofs.YtlemdhfekdiaeaaGreatDoor.Emk Go.PlainAid

/-- a string's bytes are put behind a row of bytes of the call's own, at a step of a region that draws its order -/
theorem step_append_string {ops : Array Oper} {o : Oper} {a : Act} {w : World} {K : Act → World → Prop} {Q : Exit → Act → World → Prop} {E : Prop} (hgd : o.guard = none) (sl x : Operand)
    (ho : o.op = .call { callee := .builtin .append, args := #[sl, x], argTypes := #[41, 9] }) (base : Nat) (v : Value) (n : Nat) (xs : List Value) (hs : a.eval sl = v) (hown : w.ownsRow base 5 1 v n xs) (s : ByteArray)
    (hx : a.eval x = .string s) (hn : n + s.size ≤ 100000000) (hbase : base ≤ w.heap.size)
    (h : ∀ v' w', w'.ownsRow base 5 1 v' (n + s.size) (xs ++ Lib.strCells s) → w.grownBy w' v.ownBlock → K (a.put o.dst v') w') : if Region.wanted o (yielded ops a.tmps) = true then Oper.wp Tryz.prog o a w K Q else E := by
  have hw : Region.wanted o (yielded ops a.tmps) = true := by simp [Region.wanted, hgd]
  rw [if_pos hw]
  obtain ⟨i0, hi, hz0, hz1, hz2⟩ := info_parts infoU
  obtain ⟨v', w', hr, h2, h3, h4⟩ := Lib.run_append_own_string (P := Tryz.prog) w base 41 9 o.type 5 i0 Tryz.underlying41 Tryz.underlying9 hi hz0 hz1 hz2 v n xs hown s (by unfold maxLen; omega) (by omega) hbase
  unfold Oper.wp execOp
  simp only [ho, resolve, invoke, builtin, Sem.run_bind, Sem.run_pure, Result.andThen_ok, List.map_toArray, List.map_cons, List.map_nil, hs, hx, hr]
  exact h v' w' h2 h3
/-- behind a reference; what it says -/
def refR : Ppa.Bs → Sg × Ppa.Bs
  | 35 :: t => numX t
  | 108 :: t => (mustB [116, 59] (false, t), [60])
  | 103 :: t => (mustB [116, 59] (false, t), [62])
  | 113 :: t => (mustB [117, 111, 116, 59] (false, t), [34])
  | 97 :: 109 :: t => (mustB [112, 59] (false, t), [38])
  | 97 :: t => (mustB [112, 111, 115, 59] (false, t), [39])
  | r => ((true, r), [])
theorem refR_a {t : Ppa.Bs} (h : t.head? ≠ some 109) : refR (97 :: t) = (mustB [112, 111, 115, 59] (false, t), [39]) := by
  cases t with
  | nil => rfl
  | cons y u =>
    unfold refR
    split
    · rename_i e; cases e
    · rename_i e; cases e
    · rename_i e; cases e
    · rename_i e; cases e
    · rename_i e; injection e with _ e; injection e with e _; exact absurd (by rw [e]; rfl) h
    · rename_i e; injection e with _ e; subst e; rfl
    · rename_i e; exact absurd rfl (e _)
theorem refR_none {r : Ppa.Bs} (h1 : r.head? ≠ some 35) (h2 : r.head? ≠ some 108) (h3 : r.head? ≠ some 103) (h4 : r.head? ≠ some 113) (h5 : r.head? ≠ some 97) : refR r = ((true, r), []) := by
  unfold refR
  split
  · exact absurd rfl h1
  · exact absurd rfl h2
  · exact absurd rfl h3
  · exact absurd rfl h4
  · exact absurd rfl h5
  · exact absurd rfl h5
  · rfl
theorem num_is {r : Ppa.Bs} : (∀ n t, Ppa.numM r = .ok (n, t) → numX r = ((false, t), Lib.encodeRune n)) ∧ (∀ t, Ppa.numM r = .error t → numX r = ((true, t), [])) := by
  unfold numX
  exact ⟨fun n t h => by rw [h], fun t h => by rw [h]⟩
theorem must_is (c : UInt8) (a t : Ppa.Bs) (n : Nat) (u : Ppa.Bs) (hu : u = Lib.encodeRune n) : (∀ m t', isM (c :: a) n (c :: t) = .ok (m, t') → (mustB a (false, t), u) = ((false, t'), Lib.encodeRune m)) ∧ (∀ t', isM (c :: a) n (c :: t) = .error t' → (mustB a (false, t), u).1 = (true, t')) := by
  unfold isM mustB
  rw [mustL_eq]
  cases Ppa.mustL a t with
  | ok t2 => exact ⟨fun m t' h => (by injection h with h; injection h with h1 h2; subst h1 h2 hu; rfl), fun t' h => (by cases h)⟩
  | error t2 => exact ⟨fun m t' h => (by cases h), fun t' h => (by injection h with h; subst h; rfl)⟩
theorem must_is2 (a t : Ppa.Bs) (n : Nat) (u : Ppa.Bs) (hu : u = Lib.encodeRune n) : (∀ m t', isM a n t = .ok (m, t') → (mustB a (false, t), u) = ((false, t'), Lib.encodeRune m)) ∧ (∀ t', isM a n t = .error t' → (mustB a (false, t), u).1 = (true, t')) := by
  unfold isM mustB
  cases Ppa.mustL a t with
  | ok t2 => exact ⟨fun m t' h => (by injection h with h; injection h with h1 h2; subst h1 h2 hu; rfl), fun t' h => (by cases h)⟩
  | error t2 => exact ⟨fun m t' h => (by cases h), fun t' h => (by injection h with h; subst h; rfl)⟩
theorem ref_is (r : Ppa.Bs) : (∀ n t, Ppa.refM r = .ok (n, t) → refR r = ((false, t), Lib.encodeRune n)) ∧ (∀ t, Ppa.refM r = .error t → (refR r).1 = (true, t)) := by
  by_cases h1 : r.head? = some 35
  · obtain ⟨t, rfl⟩ := head_cons h1
    rw [refM_num]
    exact ⟨num_is.1, fun t' h => by rw [show refR (35 :: t) = numX t from rfl, num_is.2 t' h]⟩
  · by_cases h2 : r.head? = some 108
    · obtain ⟨t, rfl⟩ := head_cons h2
      exact must_is 108 [116, 59] t 60 [60] (by decide +kernel)
    · by_cases h3 : r.head? = some 103
      · obtain ⟨t, rfl⟩ := head_cons h3
        exact must_is 103 [116, 59] t 62 [62] (by decide +kernel)
      · by_cases h4 : r.head? = some 113
        · obtain ⟨t, rfl⟩ := head_cons h4
          exact must_is 113 [117, 111, 116, 59] t 34 [34] (by decide +kernel)
        · by_cases h5 : r.head? = some 97
          · obtain ⟨t, rfl⟩ := head_cons h5
            by_cases h6 : t.head? = some 109
            · obtain ⟨u, rfl⟩ := head_cons h6
              exact must_is 109 [112, 59] u 38 [38] (by decide +kernel)
            · rw [refM_a h6, refR_a h6]
              exact must_is2 [112, 111, 115, 59] t 39 [39] (by decide +kernel)
          · rw [refM_none h1 h2 h3 h4 h5, refR_none h1 h2 h3 h4 h5]
            exact ⟨fun n t h => (by cases h), fun t h => by injection h with h; subst h; rfl⟩
theorem numX_len (r : Ppa.Bs) : (numX r).2.length ≤ 4 := by
  unfold numX
  split
  · unfold Lib.encodeRune
    rw [List.length_map]
    exact (Lib.encodeRuneZ_length _).2
  · simp
def refS (σ : Sg) : Sg × Ppa.Bs := if σ.1 = true then (σ, []) else refR σ.2
theorem refS_len (σ : Sg) : (refS σ).2.length ≤ 4 := by
  unfold refS
  split
  · simp
  · unfold refR
    split <;> first | exact numX_len _ | simp
section
variable {B b : Nat} {s : ByteArray} {st : Ppa.St} {z : Option Addr × Nat × Value} {σ : Sg} {w : World}
theorem is_no {r : Ppa.Bs} (c : UInt8) (n : Nat) (hn : c.toNat = n) (hc : c.toNat < 128) (h0 : 0 < n) (h : r.head? ≠ some c) (W : World) (H : Rd B b s st z (false, r) W) : Calls Tryz.prog 53 #[.pointer (some ⟨b, 0, none⟩), .int .i32 (n : Int)] W fun e w' => e = .returned (.bool false) ∧ Rd B b s st z (false, r) w' ∧ W.grownBy w' (some b) := by
  have h1 := is_r n h0 H
  have h2 := isS_no hn hc h0 h
  rw [h2.2, decide_eq_false h2.1] at h1
  exact h1
theorem is_yes {t : Ppa.Bs} (c : UInt8) (n : Nat) (hn : c.toNat = n) (hc : c.toNat < 128) (h0 : 0 < n) (W : World) (H : Rd B b s st z (false, c :: t) W) : Calls Tryz.prog 53 #[.pointer (some ⟨b, 0, none⟩), .int .i32 (n : Int)] W fun e w' => e = .returned (.bool true) ∧ Rd B b s st z (false, t) w' ∧ W.grownBy w' (some b) := by
  have h1 := is_r n h0 H
  have h2 := isS_yes hn hc t
  rw [h2.2, decide_eq_true h2.1] at h1
  exact h1
theorem is_bad {r : Ppa.Bs} (n : Nat) (h0 : 0 < n) (W : World) (H : Rd B b s st z (true, r) W) : Calls Tryz.prog 53 #[.pointer (some ⟨b, 0, none⟩), .int .i32 (n : Int)] W fun e w' => e = .returned (.bool false) ∧ Rd B b s st z (true, r) w' ∧ W.grownBy w' (some b) := by
  have h1 := is_r n h0 H
  have h2 := isS_bad h0 r
  rw [h2.2, decide_eq_false h2.1] at h1
  exact h1
set_option maxRecDepth 100000 in
set_option maxHeartbeats 4000000 in
theorem ref_r (h : Rd B b s st z σ w) : Calls Tryz.prog 61 #[.pointer (some ⟨b, 0, none⟩)] w fun e w' => e = .returned (.string ⟨(refS σ).2.toArray⟩) ∧ Rd B b s st z (refS σ).1 w' ∧ w.grownBy w' (some b) := by
  obtain ⟨x, r⟩ := σ
  have P0 := Kept.mk h
  have G0 := Kept.mk (World.grownBy.refl w (some b))
  clear h
  cases x
  · by_cases h35 : r.head? = some 35
    · obtain ⟨t, rfl⟩ := head_cons h35
      rw [show refS (false, 35 :: t) = numX t from rfl]
      have C35 := Kept.mk (fun W => is_yes (B := B) (b := b) (s := s) (st := st) (z := z) (t := t) 35 35 rfl (by decide) (by decide) W)
      go_enter Tryz.func61, Tryz.ntmps61
      go_wp2_with (first | (go_at_call 53; refine (C35.out _ P0.out).mono ?_; rintro e w1 ⟨rfl, H1, hg1⟩; have P1 := Kept.mk H1; have G1 := Kept.mk (G0.out.trans hg1); clear H1 hg1 C35) | (go_at_call 98; refine (number_r P1.out).mono ?_; rintro e w2 ⟨rfl, H2, hg2⟩; have G2 := Kept.mk (G1.out.trans hg2); clear hg2))
      go_ret
      exact ⟨rfl, H2, G2.out⟩
    · by_cases h108 : r.head? = some 108
      · obtain ⟨t, rfl⟩ := head_cons h108
        rw [show refS (false, 108 :: t) = (mustB [116, 59] (false, t), [60]) from rfl]
        have C35 := Kept.mk (fun W => is_no (B := B) (b := b) (s := s) (st := st) (z := z) 35 35 rfl (by decide) (by decide) h35 W)
        have C108 := Kept.mk (fun W => is_yes (B := B) (b := b) (s := s) (st := st) (z := z) (t := t) 108 108 rfl (by decide) (by decide) W)
        go_enter Tryz.func61, Tryz.ntmps61
        go_wp2_with (first | (go_at_call 53; refine (C35.out _ P0.out).mono ?_; rintro e w1 ⟨rfl, H1, hg1⟩; have P1 := Kept.mk H1; have G1 := Kept.mk (G0.out.trans hg1); clear H1 hg1 C35) | (go_at_call 53; refine (C108.out _ P1.out).mono ?_; rintro e w2 ⟨rfl, H2, hg2⟩; have P2 := Kept.mk H2; have G2 := Kept.mk (G1.out.trans hg2); clear H2 hg2 C108) | (go_at_call 55; refine (must_r ⟨#[116, 59]⟩ (by decide) (by decide) P2.out).mono ?_; rintro e w3 ⟨rfl, H3, hg3⟩; have G3 := Kept.mk (G2.out.trans hg3); clear hg3))
        go_ret
        exact ⟨rfl, H3, G3.out⟩
      · by_cases h103 : r.head? = some 103
        · obtain ⟨t, rfl⟩ := head_cons h103
          rw [show refS (false, 103 :: t) = (mustB [116, 59] (false, t), [62]) from rfl]
          have C35 := Kept.mk (fun W => is_no (B := B) (b := b) (s := s) (st := st) (z := z) 35 35 rfl (by decide) (by decide) h35 W)
          have C108 := Kept.mk (fun W => is_no (B := B) (b := b) (s := s) (st := st) (z := z) 108 108 rfl (by decide) (by decide) h108 W)
          have C103 := Kept.mk (fun W => is_yes (B := B) (b := b) (s := s) (st := st) (z := z) (t := t) 103 103 rfl (by decide) (by decide) W)
          go_enter Tryz.func61, Tryz.ntmps61
          go_wp2_with (first | (go_at_call 53; refine (C35.out _ P0.out).mono ?_; rintro e w1 ⟨rfl, H1, hg1⟩; have P1 := Kept.mk H1; have G1 := Kept.mk (G0.out.trans hg1); clear H1 hg1 C35) | (go_at_call 53; refine (C108.out _ P1.out).mono ?_; rintro e w2 ⟨rfl, H2, hg2⟩; have P2 := Kept.mk H2; have G2 := Kept.mk (G1.out.trans hg2); clear H2 hg2 C108) | (go_at_call 53; refine (C103.out _ P2.out).mono ?_; rintro e w3 ⟨rfl, H3, hg3⟩; have P3 := Kept.mk H3; have G3 := Kept.mk (G2.out.trans hg3); clear H3 hg3 C103) | (go_at_call 55; refine (must_r ⟨#[116, 59]⟩ (by decide) (by decide) P3.out).mono ?_; rintro e w4 ⟨rfl, H4, hg4⟩; have G4 := Kept.mk (G3.out.trans hg4); clear hg4))
          go_ret
          exact ⟨rfl, H4, G4.out⟩
        · by_cases h113 : r.head? = some 113
          · obtain ⟨t, rfl⟩ := head_cons h113
            rw [show refS (false, 113 :: t) = (mustB [117, 111, 116, 59] (false, t), [34]) from rfl]
            have C35 := Kept.mk (fun W => is_no (B := B) (b := b) (s := s) (st := st) (z := z) 35 35 rfl (by decide) (by decide) h35 W)
            have C108 := Kept.mk (fun W => is_no (B := B) (b := b) (s := s) (st := st) (z := z) 108 108 rfl (by decide) (by decide) h108 W)
            have C103 := Kept.mk (fun W => is_no (B := B) (b := b) (s := s) (st := st) (z := z) 103 103 rfl (by decide) (by decide) h103 W)
            have C113 := Kept.mk (fun W => is_yes (B := B) (b := b) (s := s) (st := st) (z := z) (t := t) 113 113 rfl (by decide) (by decide) W)
            go_enter Tryz.func61, Tryz.ntmps61
            go_wp2_with (first | (go_at_call 53; refine (C35.out _ P0.out).mono ?_; rintro e w1 ⟨rfl, H1, hg1⟩; have P1 := Kept.mk H1; have G1 := Kept.mk (G0.out.trans hg1); clear H1 hg1 C35) | (go_at_call 53; refine (C108.out _ P1.out).mono ?_; rintro e w2 ⟨rfl, H2, hg2⟩; have P2 := Kept.mk H2; have G2 := Kept.mk (G1.out.trans hg2); clear H2 hg2 C108) | (go_at_call 53; refine (C103.out _ P2.out).mono ?_; rintro e w3 ⟨rfl, H3, hg3⟩; have P3 := Kept.mk H3; have G3 := Kept.mk (G2.out.trans hg3); clear H3 hg3 C103) | (go_at_call 53; refine (C113.out _ P3.out).mono ?_; rintro e w4 ⟨rfl, H4, hg4⟩; have P4 := Kept.mk H4; have G4 := Kept.mk (G3.out.trans hg4); clear H4 hg4 C113) | (go_at_call 55; refine (must_r ⟨#[117, 111, 116, 59]⟩ (by decide) (by decide) P4.out).mono ?_; rintro e w5 ⟨rfl, H5, hg5⟩; have G5 := Kept.mk (G4.out.trans hg5); clear hg5))
            go_ret
            exact ⟨rfl, H5, G5.out⟩
          · by_cases h97 : r.head? = some 97
            · obtain ⟨t, rfl⟩ := head_cons h97
              by_cases h109 : t.head? = some 109
              · obtain ⟨u, rfl⟩ := head_cons h109
                rw [show refS (false, 97 :: 109 :: u) = (mustB [112, 59] (false, u), [38]) from rfl]
                have C35 := Kept.mk (fun W => is_no (B := B) (b := b) (s := s) (st := st) (z := z) 35 35 rfl (by decide) (by decide) h35 W)
                have C108 := Kept.mk (fun W => is_no (B := B) (b := b) (s := s) (st := st) (z := z) 108 108 rfl (by decide) (by decide) h108 W)
                have C103 := Kept.mk (fun W => is_no (B := B) (b := b) (s := s) (st := st) (z := z) 103 103 rfl (by decide) (by decide) h103 W)
                have C113 := Kept.mk (fun W => is_no (B := B) (b := b) (s := s) (st := st) (z := z) 113 113 rfl (by decide) (by decide) h113 W)
                have C97 := Kept.mk (fun W => is_yes (B := B) (b := b) (s := s) (st := st) (z := z) (t := 109 :: u) 97 97 rfl (by decide) (by decide) W)
                have C109 := Kept.mk (fun W => is_yes (B := B) (b := b) (s := s) (st := st) (z := z) (t := u) 109 109 rfl (by decide) (by decide) W)
                go_enter Tryz.func61, Tryz.ntmps61
                go_wp2_with (first | (go_at_call 53; refine (C35.out _ P0.out).mono ?_; rintro e w1 ⟨rfl, H1, hg1⟩; have P1 := Kept.mk H1; have G1 := Kept.mk (G0.out.trans hg1); clear H1 hg1 C35) | (go_at_call 53; refine (C108.out _ P1.out).mono ?_; rintro e w2 ⟨rfl, H2, hg2⟩; have P2 := Kept.mk H2; have G2 := Kept.mk (G1.out.trans hg2); clear H2 hg2 C108) | (go_at_call 53; refine (C103.out _ P2.out).mono ?_; rintro e w3 ⟨rfl, H3, hg3⟩; have P3 := Kept.mk H3; have G3 := Kept.mk (G2.out.trans hg3); clear H3 hg3 C103) | (go_at_call 53; refine (C113.out _ P3.out).mono ?_; rintro e w4 ⟨rfl, H4, hg4⟩; have P4 := Kept.mk H4; have G4 := Kept.mk (G3.out.trans hg4); clear H4 hg4 C113) | (go_at_call 53; refine (C97.out _ P4.out).mono ?_; rintro e w5 ⟨rfl, H5, hg5⟩; have P5 := Kept.mk H5; have G5 := Kept.mk (G4.out.trans hg5); clear H5 hg5 C97) | (go_at_call 53; refine (C109.out _ P5.out).mono ?_; rintro e w6 ⟨rfl, H6, hg6⟩; have P6 := Kept.mk H6; have G6 := Kept.mk (G5.out.trans hg6); clear H6 hg6 C109) | (go_at_call 55; refine (must_r ⟨#[112, 59]⟩ (by decide) (by decide) P6.out).mono ?_; rintro e w7 ⟨rfl, H7, hg7⟩; have G7 := Kept.mk (G6.out.trans hg7); clear hg7))
                go_ret
                exact ⟨rfl, H7, G7.out⟩
              · rw [show refS (false, 97 :: t) = (mustB [112, 111, 115, 59] (false, t), [39]) from refR_a h109]
                have C35 := Kept.mk (fun W => is_no (B := B) (b := b) (s := s) (st := st) (z := z) 35 35 rfl (by decide) (by decide) h35 W)
                have C108 := Kept.mk (fun W => is_no (B := B) (b := b) (s := s) (st := st) (z := z) 108 108 rfl (by decide) (by decide) h108 W)
                have C103 := Kept.mk (fun W => is_no (B := B) (b := b) (s := s) (st := st) (z := z) 103 103 rfl (by decide) (by decide) h103 W)
                have C113 := Kept.mk (fun W => is_no (B := B) (b := b) (s := s) (st := st) (z := z) 113 113 rfl (by decide) (by decide) h113 W)
                have C97 := Kept.mk (fun W => is_yes (B := B) (b := b) (s := s) (st := st) (z := z) (t := t) 97 97 rfl (by decide) (by decide) W)
                have C109 := Kept.mk (fun W => is_no (B := B) (b := b) (s := s) (st := st) (z := z) 109 109 rfl (by decide) (by decide) h109 W)
                go_enter Tryz.func61, Tryz.ntmps61
                go_wp2_with (first | (go_at_call 53; refine (C35.out _ P0.out).mono ?_; rintro e w1 ⟨rfl, H1, hg1⟩; have P1 := Kept.mk H1; have G1 := Kept.mk (G0.out.trans hg1); clear H1 hg1 C35) | (go_at_call 53; refine (C108.out _ P1.out).mono ?_; rintro e w2 ⟨rfl, H2, hg2⟩; have P2 := Kept.mk H2; have G2 := Kept.mk (G1.out.trans hg2); clear H2 hg2 C108) | (go_at_call 53; refine (C103.out _ P2.out).mono ?_; rintro e w3 ⟨rfl, H3, hg3⟩; have P3 := Kept.mk H3; have G3 := Kept.mk (G2.out.trans hg3); clear H3 hg3 C103) | (go_at_call 53; refine (C113.out _ P3.out).mono ?_; rintro e w4 ⟨rfl, H4, hg4⟩; have P4 := Kept.mk H4; have G4 := Kept.mk (G3.out.trans hg4); clear H4 hg4 C113) | (go_at_call 53; refine (C97.out _ P4.out).mono ?_; rintro e w5 ⟨rfl, H5, hg5⟩; have P5 := Kept.mk H5; have G5 := Kept.mk (G4.out.trans hg5); clear H5 hg5 C97) | (go_at_call 53; refine (C109.out _ P5.out).mono ?_; rintro e w6 ⟨rfl, H6, hg6⟩; have P6 := Kept.mk H6; have G6 := Kept.mk (G5.out.trans hg6); clear H6 hg6 C109) | (go_at_call 55; refine (must_r ⟨#[112, 111, 115, 59]⟩ (by decide) (by decide) P6.out).mono ?_; rintro e w7 ⟨rfl, H7, hg7⟩; have G7 := Kept.mk (G6.out.trans hg7); clear hg7))
                go_ret
                exact ⟨rfl, H7, G7.out⟩
            · rw [show refS (false, r) = ((true, r), []) from refR_none h35 h108 h103 h113 h97]
              have C35 := Kept.mk (fun W => is_no (B := B) (b := b) (s := s) (st := st) (z := z) 35 35 rfl (by decide) (by decide) h35 W)
              have C108 := Kept.mk (fun W => is_no (B := B) (b := b) (s := s) (st := st) (z := z) 108 108 rfl (by decide) (by decide) h108 W)
              have C103 := Kept.mk (fun W => is_no (B := B) (b := b) (s := s) (st := st) (z := z) 103 103 rfl (by decide) (by decide) h103 W)
              have C113 := Kept.mk (fun W => is_no (B := B) (b := b) (s := s) (st := st) (z := z) 113 113 rfl (by decide) (by decide) h113 W)
              have C97 := Kept.mk (fun W => is_no (B := B) (b := b) (s := s) (st := st) (z := z) 97 97 rfl (by decide) (by decide) h97 W)
              go_enter Tryz.func61, Tryz.ntmps61
              go_wp2_with (first | (go_at_call 53; refine (C35.out _ P0.out).mono ?_; rintro e w1 ⟨rfl, H1, hg1⟩; have P1 := Kept.mk H1; have G1 := Kept.mk (G0.out.trans hg1); clear H1 hg1 C35) | (go_at_call 53; refine (C108.out _ P1.out).mono ?_; rintro e w2 ⟨rfl, H2, hg2⟩; have P2 := Kept.mk H2; have G2 := Kept.mk (G1.out.trans hg2); clear H2 hg2 C108) | (go_at_call 53; refine (C103.out _ P2.out).mono ?_; rintro e w3 ⟨rfl, H3, hg3⟩; have P3 := Kept.mk H3; have G3 := Kept.mk (G2.out.trans hg3); clear H3 hg3 C103) | (go_at_call 53; refine (C113.out _ P3.out).mono ?_; rintro e w4 ⟨rfl, H4, hg4⟩; have P4 := Kept.mk H4; have G4 := Kept.mk (G3.out.trans hg4); clear H4 hg4 C113) | (go_at_call 53; refine (C97.out _ P4.out).mono ?_; rintro e w5 ⟨rfl, H5, hg5⟩; have P5 := Kept.mk H5; have G5 := Kept.mk (G4.out.trans hg5); clear H5 hg5 C97) | (go_at_call 52; refine (no_r P5.out).mono ?_; rintro e w6 ⟨rfl, H6, hg6⟩; have G6 := Kept.mk (G5.out.trans hg6); clear hg6))
              go_ret
              exact ⟨rfl, H6, G6.out⟩
  · rw [show refS (true, r) = ((true, r), []) from rfl]
    have C35 := Kept.mk (fun W => is_bad (B := B) (b := b) (s := s) (st := st) (z := z) (r := r) 35 (by decide) W)
    have C108 := Kept.mk (fun W => is_bad (B := B) (b := b) (s := s) (st := st) (z := z) (r := r) 108 (by decide) W)
    have C103 := Kept.mk (fun W => is_bad (B := B) (b := b) (s := s) (st := st) (z := z) (r := r) 103 (by decide) W)
    have C113 := Kept.mk (fun W => is_bad (B := B) (b := b) (s := s) (st := st) (z := z) (r := r) 113 (by decide) W)
    have C97 := Kept.mk (fun W => is_bad (B := B) (b := b) (s := s) (st := st) (z := z) (r := r) 97 (by decide) W)
    go_enter Tryz.func61, Tryz.ntmps61
    go_wp2_with (first | (go_at_call 53; refine (C35.out _ P0.out).mono ?_; rintro e w1 ⟨rfl, H1, hg1⟩; have P1 := Kept.mk H1; have G1 := Kept.mk (G0.out.trans hg1); clear H1 hg1 C35) | (go_at_call 53; refine (C108.out _ P1.out).mono ?_; rintro e w2 ⟨rfl, H2, hg2⟩; have P2 := Kept.mk H2; have G2 := Kept.mk (G1.out.trans hg2); clear H2 hg2 C108) | (go_at_call 53; refine (C103.out _ P2.out).mono ?_; rintro e w3 ⟨rfl, H3, hg3⟩; have P3 := Kept.mk H3; have G3 := Kept.mk (G2.out.trans hg3); clear H3 hg3 C103) | (go_at_call 53; refine (C113.out _ P3.out).mono ?_; rintro e w4 ⟨rfl, H4, hg4⟩; have P4 := Kept.mk H4; have G4 := Kept.mk (G3.out.trans hg4); clear H4 hg4 C113) | (go_at_call 53; refine (C97.out _ P4.out).mono ?_; rintro e w5 ⟨rfl, H5, hg5⟩; have P5 := Kept.mk H5; have G5 := Kept.mk (G4.out.trans hg5); clear H5 hg5 C97) | (go_at_call 52; refine (no_r P5.out).mono ?_; rintro e w6 ⟨rfl, H6, hg6⟩; have G6 := Kept.mk (G5.out.trans hg6); clear hg6))
    go_ret
    exact ⟨rfl, H6, G6.out⟩
end
end Go.Proofs.YtlemdhfekdiaeaaGreatDoor.Wrd
namespace Go.Proofs.YtlemdhfekdiaeaaGreatDoor.Wrd
open Go Go.RowKit Go.Proofs.YtlemdhfekdiaeaaGreatDoor.Kb Go.Proofs.YtlemdhfekdiaeaaGreatDoor.Wch Go.Proofs.YtlemdhfekdiaeaaGreatDoor.Wps Go.Proofs.YtlemdhfekdiaeaaGreatDoor.Emk Go.PlainAid

/-- behind a value; the value -/
def valS (σ : Sg) : Sg × Ppa.Bs := if σ.1 = true then (σ, []) else match Ppa.valM σ.2 with | .ok (v, t) => ((false, t), v) | .error t => ((true, t), [])
theorem valS_no {x : Bool} {r : Ppa.Bs} (h1 : lk (x, r) ≠ 34) (h2 : lk (x, r) ≠ 39) : valS (x, r) = ((true, r), []) := by
  cases x
  · unfold valS
    rw [if_neg (by simp)]
    cases r with
    | nil => rfl
    | cons y t =>
      have n1 : y ≠ 34 := by rintro rfl; exact h1 (lk_low 34 t (by decide))
      have n2 : y ≠ 39 := by rintro rfl; exact h2 (lk_low 39 t (by decide))
      show (match Ppa.valM (y :: t) with | .ok (v, t) => ((false, t), v) | .error t => ((true, t), [])) = _
      rw [Ppa.valM_eq, if_neg (by rintro (h | h); exact n1 h; exact n2 h)]
  · rfl
def outS : Except Ppa.Bs (Ppa.Bs × Ppa.Bs) → Sg × Ppa.Bs
  | .ok (v, t) => ((false, t), v)
  | .error t => ((true, t), [])
theorem valS_eq (r : Ppa.Bs) : valS (false, r) = outS (Ppa.valM r) := by
  unfold valS outS
  rw [if_neg (by simp)]
theorem valS_yes {q : UInt8} (hq : q = 34 ∨ q = 39) (t : Ppa.Bs) {O : Except Ppa.Bs (Ppa.Bs × Ppa.Bs)} (hO : Ppa.valF q (t.length + 1) [] t = some O) : valS (false, q :: t) = outS O := by
  rw [valS_eq, Ppa.valM_eq, if_pos hq, hO]
/-- a character that is none of those that say something is copied -/
theorem valF_char {q : UInt8} (hq : q.toNat < 128) {f : Nat} {acc r : Ppa.Bs} (hne : r ≠ []) (ht : Pch.textsL r = true) (h1 : r.head? ≠ some q) (h2 : r.head? ≠ some 60) (h3 : r.head? ≠ some 38) (h4 : r.head? ≠ some 13) (h5 : blankH r = false) : Ppa.valF q (f + (Lib.decodeL r).2) acc r = Ppa.valF q f (acc ++ r.take (Lib.decodeL r).2) (Ppa.skip r) := by
  cases r with
  | nil => exact absurd rfl hne
  | cons y t =>
    rcases Nat.lt_or_ge y.toNat 128 with hy | hy
    · rw [Lib.decodeL_ascii y t hy, skip_low y t hy]
      have e1 : ¬ y = q := fun e => h1 (by rw [e]; rfl)
      have e2 : ¬ y = 60 := fun e => h2 (by rw [e]; rfl)
      have e3 : ¬ y = 38 := fun e => h3 (by rw [e]; rfl)
      have e4 : ¬ y = 13 := fun e => h4 (by rw [e]; rfl)
      show Ppa.valF q (f + 1) acc (y :: t) = Ppa.valF q f (acc ++ [y]) t
      rw [Ppa.valF, if_neg e1, if_neg e2, if_neg e3, if_neg e4, if_neg (by rw [show Pch.blankC y = blankH (y :: t) from rfl, h5]; decide)]
    · have hb := Ppa.char_high hy ht
      have hle := Lib.decodeL_le (y :: t) hne
      have h := Ppa.valF_copy q hq ((y :: t).take (Lib.decodeL (y :: t)).2) f acc ((y :: t).drop (Lib.decodeL (y :: t)).2) hb
      rw [List.take_append_drop, List.length_take, Nat.min_eq_left hle] at h
      exact h
theorem valF_few {q : UInt8} (hq : q.toNat < 128) : ∀ (m : Nat) (u acc t : Ppa.Bs), (∀ y ∈ u, 128 ≤ y.toNat) → m ≤ u.length → Ppa.valF q m acc (u ++ t) = none
  | 0, u, acc, t, _, _ => by rw [Ppa.valF]
  | m + 1, [], acc, t, _, h => by simp at h
  | m + 1, x :: u, acc, t, hu, h => by
    rw [List.cons_append, Ppa.valF_high q hq m acc x (u ++ t) (hu x (by simp))]
    exact valF_few hq m u _ t (fun y hy => hu y (by simp [hy])) (by simpa using h)
theorem char_few {q : UInt8} (hq : q.toNat < 128) {g : Nat} {acc r : Ppa.Bs} {O : Except Ppa.Bs (Ppa.Bs × Ppa.Bs)} (hne : r ≠ []) (ht : Pch.textsL r = true) (h : Ppa.valF q (g + 1) acc r = some O) : (Lib.decodeL r).2 ≤ g + 1 := by
  cases r with
  | nil => exact absurd rfl hne
  | cons y t =>
    rcases Nat.lt_or_ge y.toNat 128 with hy | hy
    · rw [Lib.decodeL_ascii y t hy]
      exact Nat.le_add_left 1 g
    · rcases Nat.lt_or_ge (g + 1) (Lib.decodeL (y :: t)).2 with hlt | hge
      · exfalso
        have hb := Ppa.char_high hy ht
        have hle := Lib.decodeL_le (y :: t) hne
        have h2 := valF_few hq (g + 1) ((y :: t).take (Lib.decodeL (y :: t)).2) acc ((y :: t).drop (Lib.decodeL (y :: t)).2) hb (by rw [List.length_take]; omega)
        rw [List.take_append_drop, h] at h2
        cases h2
      · exact hge
theorem lk_head (c : UInt8) (hc : c.toNat < 128) (h0 : 0 < c.toNat) (n : Nat) (hn : c.toNat = n) {r : Ppa.Bs} (h : lk (false, r) ≠ n) : r.head? ≠ some c := fun e => h (by rw [← hn]; exact (lk_is c hc h0 r).2 e)
theorem lk_cons (c : UInt8) (hc : c.toNat < 128) (h0 : 0 < c.toNat) (n : Nat) (hn : c.toNat = n) {r : Ppa.Bs} (h : lk (false, r) = n) : ∃ t, r = c :: t := head_cons ((lk_is c hc h0 r).1 (by rw [h, hn]))
theorem isS_nl (t : Ppa.Bs) : isS 10 (false, t) = (false, Ppa.nlL t) := by
  by_cases h : t.head? = some 10
  · obtain ⟨u, rfl⟩ := head_cons h
    exact (isS_yes (c := 10) (n := 10) rfl (by decide) u).2
  · rw [(isS_no (c := 10) (n := 10) rfl (by decide) (by decide) h).2]
    unfold Ppa.nlL
    split
    · exact absurd rfl h
    · rfl
theorem nlL_len (t : Ppa.Bs) : (Ppa.nlL t).length ≤ t.length := by
  unfold Ppa.nlL
  split
  · simp
  · exact Nat.le_refl _
section
variable {B b : Nat} {s : ByteArray} {st : Ppa.St} {z : Option Addr × Nat × Value} {σ : Sg} {w : World}
/-- how a value goes on -/
def ValX (q : UInt8) (O : Except Ppa.Bs (Ppa.Bs × Ppa.Bs)) (g : Nat) (acc : Ppa.Bs) (σ : Sg) : Prop := if σ.1 = true then O = .error σ.2 else Ppa.valF q g acc σ.2 = some O
set_option maxRecDepth 100000 in
set_option maxHeartbeats 8000000 in
theorem value_r (h : Rd B b s st z σ w) : Calls Tryz.prog 124 #[.pointer (some ⟨b, 0, none⟩)] w fun e w' => e = .returned (.string ⟨(valS σ).2.toArray⟩) ∧ Rd B b s st z (valS σ).1 w' ∧ w.grownBy w' (some b) := by
  obtain ⟨x, r⟩ := σ
  have P0 := Kept.mk h
  have hlen := h.len
  have hs9 := h.small
  have hbw := h.lt
  dsimp only at hlen
  have CL := Kept.mk (look_r h)
  clear h
  by_cases hq : lk (x, r) = 34 ∨ lk (x, r) = 39
  · obtain rfl : x = false := by
      cases x
      · rfl
      · rw [lk_bad] at hq; simp at hq
    obtain ⟨q, t, hq2, hqn, rfl⟩ : ∃ (q : UInt8) (t : Ppa.Bs), (q = 34 ∨ q = 39) ∧ lk (false, r) = q.toNat ∧ r = q :: t := by
      rcases hq with h | h
      · obtain ⟨t, e⟩ := lk_cons 34 (by decide) (by decide) 34 rfl h
        exact ⟨34, t, .inl rfl, h, e⟩
      · obtain ⟨t, e⟩ := lk_cons 39 (by decide) (by decide) 39 rfl h
        exact ⟨39, t, .inr rfl, h, e⟩
    have hql : q.toNat < 128 := by rcases hq2 with rfl | rfl <;> decide
    have hq0 : 0 < q.toNat := by rcases hq2 with rfl | rfl <;> decide
    obtain ⟨O, hO⟩ := valF_some q (t.length + 1) [] t (by omega)
    have hV := valS_yes hq2 t hO
    generalize hT : valS (false, q :: t) = T at hV
    have HV := Kept.mk hV
    rw [hqn] at CL
    have hqq : (q.toNat : Int) = 34 ∨ (q.toNat : Int) = 39 := by rcases hq2 with rfl | rfl <;> simp
    have CT := Kept.mk (fun (W : World) (H : Rd B b s st z (false, q :: t) W) => step_r H (by simp))
    dsimp only at CT
    rw [skip_low q t hql] at CT
    have HO := Kept.mk hO
    simp only [List.length_cons] at hlen
    obtain ⟨Q, hQ⟩ : ∃ Q : Nat, q.toNat = Q := ⟨_, rfl⟩
    rw [hQ] at CL hqq
    have HQ := Kept.mk hQ
    have hq60 : ¬ Q = 60 := by omega
    have hq38 : ¬ Q = 38 := by omega
    have hQ0 : 0 < Q := by omega
    obtain ⟨i0, hi, hz0, hz1, hz2⟩ := info_parts infoU
    have HQ0 := Kept.mk hq0
    clear hq hq2 hqn hO hV hT hQ hq0
    go_enter Tryz.func124, Tryz.ntmps124
    rcases hqq with e34 | e39
    · obtain rfl : Q = 34 := by omega
      go_wp2_with (first | (go_at_call 50; refine CL.out.mono ?_; rintro e w1 ⟨rfl, H1, hb1⟩; have P1 := Kept.mk H1; have G1 := Kept.mk (grown_of_below hb1 (some b)); clear H1 hb1) | (go_at_call 51; refine (CT.out _ P1.out).mono ?_; rintro e w2 ⟨rfl, H2, hg2⟩; have P2 := Kept.mk H2; have G2 := Kept.mk (G1.out.trans hg2); clear H2 hg2))
      go_loopg [4, 5, 6] (t.length + 1) (fun g v4 _ _ wx => ∃ (acc : Ppa.Bs) (σ' : Sg), Kept (Rd B b s st z σ' wx) ∧ Kept (w.grownBy wx (some b)) ∧ Kept (wx.ownsRow w.heap.size 5 1 v4 acc.length (Lib.byteCells acc)) ∧ Kept (ValX q O g acc σ') ∧ acc.length + 4 * σ'.2.length ≤ 400000)
      case atStart => exact ⟨[], (false, t), P2, G2, ⟨World.ownsRow_nil _ _ _ _⟩, ⟨by unfold ValX; rw [if_neg (by simp)]; exact HO.out⟩, by simp; omega⟩
      case round =>
        obtain ⟨acc, ⟨x', r'⟩, HP, G, HR, HX, hal⟩ := hrel
        clear CL CT P2 G2 HO
        have bd := HP.out.c2
        dsimp only at bd hal
        have s3 := G.out.size
        cases x'
        · obtain ⟨g, rfl⟩ : ∃ g, gk = g + 1 := by
            cases gk with
            | zero => exfalso; have h := HX.out; unfold ValX at h; rw [if_neg (by simp)] at h; cases h
            | succ g => exact ⟨g, rfl⟩
          have HF := HX.out
          unfold ValX at HF
          rw [if_neg (by simp)] at HF
          dsimp only at HF
          have CL := Kept.mk (look_r HP.out)
          have HTX := HP.out.tx
          dsimp only at HTX
          by_cases c0 : lk (false, r') = 0
          · have hnil : r' = [] := by
              by_cases hn : r' = []
              · exact hn
              · have := lk_pos hn HTX; omega
            subst hnil
            have HY : Kept (ValX q O g acc (true, [])) := ⟨by unfold ValX; rw [if_pos rfl]; rw [Ppa.valF] at HF; injection HF with HF; exact HF.symm⟩
            rw [c0] at CL
            clear HX HF HTX c0
            go_wp2_with (first | (go_at_call 50; refine CL.out.mono ?_; rintro e w3 ⟨rfl, H3, hb3⟩; have P3 := Kept.mk H3; have G3 := Kept.mk (G.out.trans (grown_of_below hb3 (some b))); have O3 := Kept.mk (Flt.own_below HR.out hb3); have d1 := H3.c1; clear H3 hb3 CL) | (go_at_call 52; refine (no_r P3.out).mono ?_; rintro e w4 ⟨rfl, H4, hg4⟩; have P4 := Kept.mk H4; have G4 := Kept.mk (G3.out.trans hg4); have O4 := Kept.mk (own_grown hbw O3.out hg4); clear H4 hg4))
            go_roundg g
            case measure => omega
            case rel => exact ⟨acc, (true, []), P4, G4, O4, HY, hal⟩
          by_cases cq : lk (false, r') = 34
          · obtain ⟨u, rfl⟩ := lk_cons q hql HQ0.out 34 HQ.out cq
            have hO2 : O = .ok (acc, u) := by rw [Ppa.valF, if_pos rfl] at HF; injection HF with HF; exact HF.symm
            have HTT : Kept (T = ((false, u), acc)) := ⟨by rw [HV.out, hO2]; rfl⟩
            have CS := Kept.mk (fun (W : World) (H : Rd B b s st z (false, q :: u) W) => step_r H (by simp))
            dsimp only at CS
            rw [skip_low q u hql] at CS
            rw [cq] at CL
            obtain ⟨A5, c5, rfl, _⟩ := Flt.own_slice HR.out
            clear HX HF HTX c0 cq hO2
            go_wp2_with (first | (go_at_call 50; refine CL.out.mono ?_; rintro e w3 ⟨rfl, H3, hb3⟩; have P3 := Kept.mk H3; have G3 := Kept.mk (G.out.trans (grown_of_below hb3 (some b))); have O3 := Kept.mk (Flt.own_below HR.out hb3); have d1 := H3.c1; clear H3 hb3 CL) | (go_at_call 51; refine (CS.out _ P3.out).mono ?_; rintro e w4 ⟨rfl, H4, hg4⟩; have P4 := Kept.mk H4; have G4 := Kept.mk (G3.out.trans hg4); have O4 := Kept.mk (own_grown hbw O3.out hg4); have hcv := conv_own2 _ O4.out rfl; clear H4 hg4 CS))
            go_ret
            rw [HTT.out]
            exact ⟨rfl, P4.out, G4.out⟩
          by_cases c60 : lk (false, r') = 60
          · obtain ⟨u, rfl⟩ := lk_cons 60 (by decide) (by decide) 60 rfl c60
            have nq : ¬ (60 : UInt8) = q := by rintro rfl; exact cq (by rw [c60]; exact HQ.out)
            have HY : Kept (ValX q O g acc (true, 60 :: u)) := ⟨by unfold ValX; rw [if_pos rfl]; rw [Ppa.valF, if_neg nq, if_pos rfl] at HF; injection HF with HF; exact HF.symm⟩
            rw [c60] at CL
            clear HX HF HTX c0 cq c60 nq
            go_wp2_with (first | (go_at_call 50; refine CL.out.mono ?_; rintro e w3 ⟨rfl, H3, hb3⟩; have P3 := Kept.mk H3; have G3 := Kept.mk (G.out.trans (grown_of_below hb3 (some b))); have O3 := Kept.mk (Flt.own_below HR.out hb3); have d1 := H3.c1; clear H3 hb3 CL) | (go_at_call 52; refine (no_r P3.out).mono ?_; rintro e w4 ⟨rfl, H4, hg4⟩; have P4 := Kept.mk H4; have G4 := Kept.mk (G3.out.trans hg4); have O4 := Kept.mk (own_grown hbw O3.out hg4); clear H4 hg4))
            go_roundg g
            case measure => omega
            case rel => exact ⟨acc, (true, 60 :: u), P4, G4, O4, HY, hal⟩
          by_cases c38 : lk (false, r') = 38
          · obtain ⟨u, rfl⟩ := lk_cons 38 (by decide) (by decide) 38 rfl c38
            have nq : ¬ (38 : UInt8) = q := by rintro rfl; exact cq (by rw [c38]; exact HQ.out)
            have hri := ref_is u
            have hrl := refS_len (false, u)
            rw [show refS (false, u) = refR u from rfl] at hrl
            rw [Ppa.valF, if_neg nq, if_neg (by decide), if_pos rfl] at HF
            have hY : ValX q O g (acc ++ (refR u).2) (refR u).1 ∧ (refR u).1.2.length ≤ u.length := by
              cases hm : Ppa.refM u with
              | ok p =>
                obtain ⟨n, t'⟩ := p
                rw [hm] at HF
                rw [hri.1 n t' hm]
                exact ⟨by unfold ValX; rw [if_neg (by simp)]; exact HF, (Ppa.refM_suf hm).length_le⟩
              | error t' =>
                rw [hm] at HF
                have e := hri.2 t' hm
                rw [e]
                exact ⟨by unfold ValX; rw [if_pos rfl]; injection HF with HF; exact HF.symm, (Ppa.er_ref hm).1.length_le⟩
            have HY := Kept.mk hY.1
            have hyl := hY.2
            have CS := Kept.mk (fun (W : World) (H : Rd B b s st z (false, 38 :: u) W) => step_r H (by simp))
            dsimp only at CS
            rw [skip_low 38 u (by decide)] at CS
            have CR := Kept.mk (fun (W : World) (H : Rd B b s st z (false, u) W) => ref_r H)
            rw [show refS (false, u) = refR u from rfl] at CR
            obtain ⟨V, hVV⟩ : ∃ V, (refR u).2 = V := ⟨_, rfl⟩
            obtain ⟨S, hSS⟩ : ∃ S, (refR u).1 = S := ⟨_, rfl⟩
            rw [hVV] at CR HY hrl
            rw [hSS] at CR HY hyl
            have hvs : (⟨V.toArray⟩ : ByteArray).size = V.length := Lib.size_mk V
            rw [c38] at CL
            simp only [List.length_cons] at hal
            clear HX HF HTX c0 cq c60 c38 nq hri hY hVV hSS
            go_wp2_with (first | (go_at_call 50; refine CL.out.mono ?_; rintro e w3 ⟨rfl, H3, hb3⟩; have P3 := Kept.mk H3; have G3 := Kept.mk (G.out.trans (grown_of_below hb3 (some b))); have O3 := Kept.mk (Flt.own_below HR.out hb3); have d1 := H3.c1; clear H3 hb3 CL) | (go_at_call 51; refine (CS.out _ P3.out).mono ?_; rintro e w4 ⟨rfl, H4, hg4⟩; have P4 := Kept.mk H4; have G4 := Kept.mk (G3.out.trans hg4); have O4 := Kept.mk (own_grown hbw O3.out hg4); clear H4 hg4 CS) | (go_at_call 61; refine (CR.out _ P4.out).mono ?_; rintro e w5 ⟨rfl, H5, hg5⟩; have P5 := Kept.mk H5; have G5 := Kept.mk (G4.out.trans hg5); have O5 := Kept.mk (own_grown hbw O4.out hg5); clear H5 hg5) | (at_builtin; refine Lib.wpList_append_own_string _ rfl (.tmp 66) (.tmp 68) 41 9 rfl w.heap.size 5 i0 Tryz.underlying41 Tryz.underlying9 hi hz0 hz1 hz2 _ acc.length (Lib.byteCells acc) (by rfl) O5.out ⟨V.toArray⟩ (by rfl) (by rw [hvs]; unfold maxLen; omega) (by rw [hvs]; omega) G5.out.size ?_; intro v7 w7 hown7 hgrow7 _; have P7 := Kept.mk (Rd.push P0.out P5.out O5.out hgrow7); have G7 := Kept.mk (grown_own G5.out O5.out hgrow7); have O7 := Kept.mk hown7; clear hown7 hgrow7))
            go_roundg g
            case measure => omega
            case rel => exact ⟨acc ++ V, S, P7, G7, ⟨by have h := O7.out; rw [hvs] at h; rw [Lib.byteCells_append, List.length_append]; exact h⟩, HY, by rw [List.length_append]; omega⟩
          by_cases c13 : lk (false, r') = 13
          · obtain ⟨u, rfl⟩ := lk_cons 13 (by decide) (by decide) 13 rfl c13
            have nq : ¬ (13 : UInt8) = q := by rintro rfl; exact cq (by rw [c13]; exact HQ.out)
            rw [Ppa.valF, if_neg nq, if_neg (by decide), if_neg (by decide), if_pos rfl] at HF
            have HY : Kept (ValX q O g (acc ++ [32]) (false, Ppa.nlL u)) := ⟨by unfold ValX; rw [if_neg (by simp)]; exact HF⟩
            have hnl := nlL_len u
            have CS := Kept.mk (fun (W : World) (H : Rd B b s st z (false, 13 :: u) W) => step_r H (by simp))
            dsimp only at CS
            rw [skip_low 13 u (by decide)] at CS
            have CI := Kept.mk (fun (W : World) (H : Rd B b s st z (false, u) W) => is_r 10 (by decide) H)
            rw [isS_nl] at CI
            generalize decide (lk (false, u) = 10) = D at CI
            rw [c13] at CL
            simp only [List.length_cons] at hal
            clear HX HF HTX c0 cq c60 c38 c13 nq
            go_wp2_with (first | (go_at_call 50; refine CL.out.mono ?_; rintro e w3 ⟨rfl, H3, hb3⟩; have P3 := Kept.mk H3; have G3 := Kept.mk (G.out.trans (grown_of_below hb3 (some b))); have O3 := Kept.mk (Flt.own_below HR.out hb3); have d1 := H3.c1; clear H3 hb3 CL) | (go_at_call 51; refine (CS.out _ P3.out).mono ?_; rintro e w4 ⟨rfl, H4, hg4⟩; have P4 := Kept.mk H4; have G4 := Kept.mk (G3.out.trans hg4); have O4 := Kept.mk (own_grown hbw O3.out hg4); clear H4 hg4 CS) | (go_at_call 53; refine (CI.out _ P4.out).mono ?_; rintro e w5 ⟨rfl, H5, hg5⟩; have P5 := Kept.mk H5; have G5 := Kept.mk (G4.out.trans hg5); have O5 := Kept.mk (own_grown hbw O4.out hg5); clear H5 hg5) | (at_builtin; refine wpList_append_own _ rfl (.tmp 77) (.tmp 78) 41 rfl w.heap.size 5 i0 (.int .u8 0) 1 1 Tryz.underlying41 hi hz0 hz1 hz2 rfl (by decide) _ acc.length _ (by rfl) (O5.out.alloc _) ⟨w5.heap.size, 0, none⟩ 1 1 [.int .u8 32] (by rfl) (by rfl) (World.news_of_block (heap_alloc_new _ _)) (by intro u hu; simp at hu; subst hu; rfl) (by unfold maxLen; omega) (by omega) (by have := G5.out.size; simp; omega) ?_; intro v7 w7 hown7 hgrow7 _; have hba := (Below.refl w5.heap.size w5).alloc (Nat.le_refl _) (.cells #[.int .u8 32] 5); have P7 := Kept.mk (Rd.push P0.out (P5.out.below hba) (O5.out.alloc _) hgrow7); have G7 := Kept.mk (grown_own (G5.out.trans (grown_of_below hba _)) (O5.out.alloc _) hgrow7); have O7 := Kept.mk hown7; clear hown7 hgrow7 hba))
            go_roundg g
            case measure => omega
            case rel => exact ⟨acc ++ [32], (false, Ppa.nlL u), P7, G7, ⟨by rw [Lib.byteCells_append, List.length_append]; exact O7.out⟩, HY, by rw [List.length_append]; simp; omega⟩
          have hbk := blk_lk false r'
          have CB := Kept.mk (fun W => rblank_any (lk (false, r')) W)
          have hrne : r' ≠ [] := by rintro rfl; exact c0 (lk_nil _)
          have k1 := lk_head q hql HQ0.out 34 HQ.out cq
          have k2 := lk_head 60 (by decide) (by decide) 60 rfl c60
          have k3 := lk_head 38 (by decide) (by decide) 38 rfl c38
          have k4 := lk_head 13 (by decide) (by decide) 13 rfl c13
          rw [hbk] at CB
          generalize lk (false, r') = C at CL CB c0 cq c60 c38 c13
          have m0 : ¬ (C : Int) = 0 := by omega
          have m1 : ¬ (C : Int) = 34 := by omega
          have m2 : ¬ (C : Int) = 60 := by omega
          have m3 : ¬ (C : Int) = 38 := by omega
          have m4 : ¬ (C : Int) = 13 := by omega
          have q0 : ((C : Int) == 0) = false := by simpa using m0
          have q1 : ((C : Int) == 34) = false := by simpa using m1
          have q2 : ((C : Int) == 60) = false := by simpa using m2
          have q3 : ((C : Int) == 38) = false := by simpa using m3
          have q4 : ((C : Int) == 13) = false := by simpa using m4
          cases hbl : blankH r' with
          | true =>
            obtain ⟨y, u, rfl⟩ : ∃ y u, r' = y :: u := by
              cases r' with
              | nil => cases hbl
              | cons y u => exact ⟨y, u, rfl⟩
            have hy := blankC_low hbl
            have n1 : ¬ y = q := fun e => k1 (by rw [e]; rfl)
            have n2 : ¬ y = 60 := fun e => k2 (by rw [e]; rfl)
            have n3 : ¬ y = 38 := fun e => k3 (by rw [e]; rfl)
            have n4 : ¬ y = 13 := fun e => k4 (by rw [e]; rfl)
            rw [Ppa.valF, if_neg n1, if_neg n2, if_neg n3, if_neg n4, if_pos (show Pch.blankC y = true from hbl)] at HF
            have HY : Kept (ValX q O g (acc ++ [32]) (false, u)) := ⟨by unfold ValX; rw [if_neg (by simp)]; exact HF⟩
            rw [hbl] at CB
            have CS := Kept.mk (fun (W : World) (H : Rd B b s st z (false, y :: u) W) => step_r H (by simp))
            dsimp only at CS
            rw [skip_low y u hy] at CS
            simp only [List.length_cons] at hal
            clear HX HF HTX c0 cq c60 c38 c13 hbk hbl k1 k2 k3 k4 n1 n2 n3 n4 hrne
            go_wp2_with (first | (go_at_call 50; refine CL.out.mono ?_; rintro e w3 ⟨rfl, H3, hb3⟩; have P3 := Kept.mk H3; have G3 := Kept.mk (G.out.trans (grown_of_below hb3 (some b))); have O3 := Kept.mk (Flt.own_below HR.out hb3); have d1 := H3.c1; clear H3 hb3 CL) | (go_at_call 51; refine (CS.out _ P3.out).mono ?_; rintro e w4 ⟨rfl, H4, hg4⟩; have P4 := Kept.mk H4; have G4 := Kept.mk (G3.out.trans hg4); have O4 := Kept.mk (own_grown hbw O3.out hg4); clear H4 hg4 CS) | (go_at_call 48; refine (CB.out _).mono ?_; rintro e w9 ⟨rfl, rfl⟩) | (at_builtin; refine wpList_append_own _ rfl (.tmp 85) (.tmp 86) 41 rfl w.heap.size 5 i0 (.int .u8 0) 1 1 Tryz.underlying41 hi hz0 hz1 hz2 rfl (by decide) _ acc.length _ (by rfl) (O4.out.alloc _) ⟨w4.heap.size, 0, none⟩ 1 1 [.int .u8 32] (by rfl) (by rfl) (World.news_of_block (heap_alloc_new _ _)) (by intro u hu; simp at hu; subst hu; rfl) (by unfold maxLen; omega) (by omega) (by have := G4.out.size; simp; omega) ?_; intro v7 w7 hown7 hgrow7 _; have hba := (Below.refl w4.heap.size w4).alloc (Nat.le_refl _) (.cells #[.int .u8 32] 5); have P7 := Kept.mk (Rd.push P0.out (P4.out.below hba) (O4.out.alloc _) hgrow7); have G7 := Kept.mk (grown_own (G4.out.trans (grown_of_below hba _)) (O4.out.alloc _) hgrow7); have O7 := Kept.mk hown7; clear hown7 hgrow7 hba))
            go_roundg g
            case measure => omega
            case rel => exact ⟨acc ++ [32], (false, u), P7, G7, ⟨by rw [Lib.byteCells_append, List.length_append]; exact O7.out⟩, HY, by rw [List.length_append]; simp; omega⟩
          | false =>
            have hd1 := Lib.decodeL_width r'
            have hd2 := Lib.decodeL_le r' hrne
            rw [hbl] at CB
            have CS := Kept.mk (fun (W : World) (H : Rd B b s st z (false, r') W) => step_r H hrne)
            dsimp only at CS
            have hsk : Ppa.skip r' = r'.drop (Lib.decodeL r').2 := rfl
            have hle := HP.out.len
            have hdr := HP.out.drop
            dsimp only at hle hdr
            obtain ⟨d, hd⟩ : ∃ d, (Lib.decodeL r').2 = d := ⟨_, rfl⟩
            have hxg : ∀ m, m + d = g + 1 → Ppa.valF q m (acc ++ r'.take d) (r'.drop d) = some O := fun m hm => by
              have h := valF_char (f := m) (acc := acc) hql hrne HTX k1 k2 k3 k4 hbl
              rw [hd, hm, HF, hsk, hd] at h
              exact h.symm
            have hgd : d ≤ g + 1 := by rw [← hd]; exact char_few hql hrne HTX HF
            have HY : Kept (ValX q O (g + 1 - d) (acc ++ r'.take d) (false, r'.drop d)) := ⟨by unfold ValX; rw [if_neg (by simp)]; exact hxg _ (by omega)⟩
            rw [hsk, hd] at CS
            rw [hd] at hd1 hd2
            obtain ⟨k, hk⟩ : ∃ k, s.size - r'.length = k := ⟨_, rfl⟩
            have hdl : (r'.drop d).length = r'.length - d := List.length_drop
            have hkd : s.size - (r'.drop d).length = k + d := by omega
            have htl : (r'.take d).length = d := by rw [List.length_take]; omega
            have hxs : s.extract k (k + d) = ⟨(r'.take d).toArray⟩ := by rw [extract_part, ← hk, hdr]
            clear HX HF HTX c0 cq c60 c38 c13 hbk hbl k1 k2 k3 k4 hd hsk hxg hrne hdr
            obtain ⟨A5, c5, rfl, _⟩ := Flt.own_slice HR.out
            have e0' : (0 : Int) ≤ (k : Int) := by omega
            have e1' : (k : Int) ≤ (k : Int) + (d : Int) := by omega
            have e2' : (k : Int) + (d : Int) ≤ (s.size : Int) := by omega
            have e3' : ((k : Int) + (d : Int)).toNat = k + d := by omega
            have hzx : (s.extract k (k + d)).size = d := by rw [hxs, Lib.size_mk, htl]
            have HXS := Kept.mk hxs
            have HZX := Kept.mk hzx
            clear hxs hzx
            go_wp2_with (first | (go_at_call 50; refine CL.out.mono ?_; rintro e w3 ⟨rfl, H3, hb3⟩; have P3 := Kept.mk H3; have G3 := Kept.mk (G.out.trans (grown_of_below hb3 (some b))); have O3 := Kept.mk (Flt.own_below HR.out hb3); have d1 := H3.c1; dsimp only at d1; rw [hk] at d1; clear H3 hb3 CL) | (go_at_call 51; refine (CS.out _ P3.out).mono ?_; rintro e w4 ⟨rfl, H4, hg4⟩; have P4 := Kept.mk H4; have G4 := Kept.mk (G3.out.trans hg4); have O4 := Kept.mk (own_grown hbw O3.out hg4); clear H4 hg4 CS) | (go_at_call 48; refine (CB.out _).mono ?_; rintro e w9 ⟨rfl, rfl⟩))
            have f0 := P4.out.c0
            have f1 := P4.out.c1
            dsimp only at f1
            rw [hkd, show ((k + d : Nat) : Int) = (k : Int) + (d : Int) by omega] at f1
            go_region_law (refine step_append_string rfl (.tmp 32) (.tmp 42) rfl w.heap.size (.slice A5 acc.length c5) acc.length (Lib.byteCells acc) (by rfl) (Flt.own_below O4.out ((Below.refl _ w4).drew)) (s.extract k (k + d)) (by rfl) (by rw [HZX.out]; omega) G4.out.size ?_; intro v7 w7 hown7 hgrow7; have P7 := Kept.mk (Rd.push P0.out (P4.out.below ((Below.refl _ w4).drew)) (Flt.own_below O4.out ((Below.refl _ w4).drew)) hgrow7); have G7 := Kept.mk (grown_own (G4.out.trans (grown_of_below ((Below.refl _ w4).drew) _)) (Flt.own_below O4.out ((Below.refl _ w4).drew)) hgrow7); have O7 := Kept.mk hown7; clear hown7 hgrow7)
            all_goals
              go_wp2
              go_roundg (g + 1 - d)
              case measure => omega
              case rel => exact ⟨acc ++ r'.take d, (false, r'.drop d), P7, G7, ⟨by have h := O7.out; rw [HZX.out, HXS.out] at h; rw [Lib.byteCells_append, List.length_append, htl]; exact h⟩, HY, by rw [List.length_append, htl]; show acc.length + d + 4 * (r'.drop d).length ≤ 400000; omega⟩
        · have HTT : Kept (T = ((true, r'), [])) := ⟨by have h := HX.out; unfold ValX at h; rw [if_pos rfl] at h; rw [HV.out, h]; rfl⟩
          clear HX
          go_wp2
          go_ret
          rw [HTT.out]
          exact ⟨rfl, HP.out, G.out⟩
    · obtain rfl : Q = 39 := by omega
      go_wp2_with (first | (go_at_call 50; refine CL.out.mono ?_; rintro e w1 ⟨rfl, H1, hb1⟩; have P1 := Kept.mk H1; have G1 := Kept.mk (grown_of_below hb1 (some b)); clear H1 hb1) | (go_at_call 51; refine (CT.out _ P1.out).mono ?_; rintro e w2 ⟨rfl, H2, hg2⟩; have P2 := Kept.mk H2; have G2 := Kept.mk (G1.out.trans hg2); clear H2 hg2))
      go_loopg [4, 5, 6] (t.length + 1) (fun g v4 _ _ wx => ∃ (acc : Ppa.Bs) (σ' : Sg), Kept (Rd B b s st z σ' wx) ∧ Kept (w.grownBy wx (some b)) ∧ Kept (wx.ownsRow w.heap.size 5 1 v4 acc.length (Lib.byteCells acc)) ∧ Kept (ValX q O g acc σ') ∧ acc.length + 4 * σ'.2.length ≤ 400000)
      case atStart => exact ⟨[], (false, t), P2, G2, ⟨World.ownsRow_nil _ _ _ _⟩, ⟨by unfold ValX; rw [if_neg (by simp)]; exact HO.out⟩, by simp; omega⟩
      case round =>
        obtain ⟨acc, ⟨x', r'⟩, HP, G, HR, HX, hal⟩ := hrel
        clear CL CT P2 G2 HO
        have bd := HP.out.c2
        dsimp only at bd hal
        have s3 := G.out.size
        cases x'
        · obtain ⟨g, rfl⟩ : ∃ g, gk = g + 1 := by
            cases gk with
            | zero => exfalso; have h := HX.out; unfold ValX at h; rw [if_neg (by simp)] at h; cases h
            | succ g => exact ⟨g, rfl⟩
          have HF := HX.out
          unfold ValX at HF
          rw [if_neg (by simp)] at HF
          dsimp only at HF
          have CL := Kept.mk (look_r HP.out)
          have HTX := HP.out.tx
          dsimp only at HTX
          by_cases c0 : lk (false, r') = 0
          · have hnil : r' = [] := by
              by_cases hn : r' = []
              · exact hn
              · have := lk_pos hn HTX; omega
            subst hnil
            have HY : Kept (ValX q O g acc (true, [])) := ⟨by unfold ValX; rw [if_pos rfl]; rw [Ppa.valF] at HF; injection HF with HF; exact HF.symm⟩
            rw [c0] at CL
            clear HX HF HTX c0
            go_wp2_with (first | (go_at_call 50; refine CL.out.mono ?_; rintro e w3 ⟨rfl, H3, hb3⟩; have P3 := Kept.mk H3; have G3 := Kept.mk (G.out.trans (grown_of_below hb3 (some b))); have O3 := Kept.mk (Flt.own_below HR.out hb3); have d1 := H3.c1; clear H3 hb3 CL) | (go_at_call 52; refine (no_r P3.out).mono ?_; rintro e w4 ⟨rfl, H4, hg4⟩; have P4 := Kept.mk H4; have G4 := Kept.mk (G3.out.trans hg4); have O4 := Kept.mk (own_grown hbw O3.out hg4); clear H4 hg4))
            go_roundg g
            case measure => omega
            case rel => exact ⟨acc, (true, []), P4, G4, O4, HY, hal⟩
          by_cases cq : lk (false, r') = 39
          · obtain ⟨u, rfl⟩ := lk_cons q hql HQ0.out 39 HQ.out cq
            have hO2 : O = .ok (acc, u) := by rw [Ppa.valF, if_pos rfl] at HF; injection HF with HF; exact HF.symm
            have HTT : Kept (T = ((false, u), acc)) := ⟨by rw [HV.out, hO2]; rfl⟩
            have CS := Kept.mk (fun (W : World) (H : Rd B b s st z (false, q :: u) W) => step_r H (by simp))
            dsimp only at CS
            rw [skip_low q u hql] at CS
            rw [cq] at CL
            obtain ⟨A5, c5, rfl, _⟩ := Flt.own_slice HR.out
            clear HX HF HTX c0 cq hO2
            go_wp2_with (first | (go_at_call 50; refine CL.out.mono ?_; rintro e w3 ⟨rfl, H3, hb3⟩; have P3 := Kept.mk H3; have G3 := Kept.mk (G.out.trans (grown_of_below hb3 (some b))); have O3 := Kept.mk (Flt.own_below HR.out hb3); have d1 := H3.c1; clear H3 hb3 CL) | (go_at_call 51; refine (CS.out _ P3.out).mono ?_; rintro e w4 ⟨rfl, H4, hg4⟩; have P4 := Kept.mk H4; have G4 := Kept.mk (G3.out.trans hg4); have O4 := Kept.mk (own_grown hbw O3.out hg4); have hcv := conv_own2 _ O4.out rfl; clear H4 hg4 CS))
            go_ret
            rw [HTT.out]
            exact ⟨rfl, P4.out, G4.out⟩
          by_cases c60 : lk (false, r') = 60
          · obtain ⟨u, rfl⟩ := lk_cons 60 (by decide) (by decide) 60 rfl c60
            have nq : ¬ (60 : UInt8) = q := by rintro rfl; exact cq (by rw [c60]; exact HQ.out)
            have HY : Kept (ValX q O g acc (true, 60 :: u)) := ⟨by unfold ValX; rw [if_pos rfl]; rw [Ppa.valF, if_neg nq, if_pos rfl] at HF; injection HF with HF; exact HF.symm⟩
            rw [c60] at CL
            clear HX HF HTX c0 cq c60 nq
            go_wp2_with (first | (go_at_call 50; refine CL.out.mono ?_; rintro e w3 ⟨rfl, H3, hb3⟩; have P3 := Kept.mk H3; have G3 := Kept.mk (G.out.trans (grown_of_below hb3 (some b))); have O3 := Kept.mk (Flt.own_below HR.out hb3); have d1 := H3.c1; clear H3 hb3 CL) | (go_at_call 52; refine (no_r P3.out).mono ?_; rintro e w4 ⟨rfl, H4, hg4⟩; have P4 := Kept.mk H4; have G4 := Kept.mk (G3.out.trans hg4); have O4 := Kept.mk (own_grown hbw O3.out hg4); clear H4 hg4))
            go_roundg g
            case measure => omega
            case rel => exact ⟨acc, (true, 60 :: u), P4, G4, O4, HY, hal⟩
          by_cases c38 : lk (false, r') = 38
          · obtain ⟨u, rfl⟩ := lk_cons 38 (by decide) (by decide) 38 rfl c38
            have nq : ¬ (38 : UInt8) = q := by rintro rfl; exact cq (by rw [c38]; exact HQ.out)
            have hri := ref_is u
            have hrl := refS_len (false, u)
            rw [show refS (false, u) = refR u from rfl] at hrl
            rw [Ppa.valF, if_neg nq, if_neg (by decide), if_pos rfl] at HF
            have hY : ValX q O g (acc ++ (refR u).2) (refR u).1 ∧ (refR u).1.2.length ≤ u.length := by
              cases hm : Ppa.refM u with
              | ok p =>
                obtain ⟨n, t'⟩ := p
                rw [hm] at HF
                rw [hri.1 n t' hm]
                exact ⟨by unfold ValX; rw [if_neg (by simp)]; exact HF, (Ppa.refM_suf hm).length_le⟩
              | error t' =>
                rw [hm] at HF
                have e := hri.2 t' hm
                rw [e]
                exact ⟨by unfold ValX; rw [if_pos rfl]; injection HF with HF; exact HF.symm, (Ppa.er_ref hm).1.length_le⟩
            have HY := Kept.mk hY.1
            have hyl := hY.2
            have CS := Kept.mk (fun (W : World) (H : Rd B b s st z (false, 38 :: u) W) => step_r H (by simp))
            dsimp only at CS
            rw [skip_low 38 u (by decide)] at CS
            have CR := Kept.mk (fun (W : World) (H : Rd B b s st z (false, u) W) => ref_r H)
            rw [show refS (false, u) = refR u from rfl] at CR
            obtain ⟨V, hVV⟩ : ∃ V, (refR u).2 = V := ⟨_, rfl⟩
            obtain ⟨S, hSS⟩ : ∃ S, (refR u).1 = S := ⟨_, rfl⟩
            rw [hVV] at CR HY hrl
            rw [hSS] at CR HY hyl
            have hvs : (⟨V.toArray⟩ : ByteArray).size = V.length := Lib.size_mk V
            rw [c38] at CL
            simp only [List.length_cons] at hal
            clear HX HF HTX c0 cq c60 c38 nq hri hY hVV hSS
            go_wp2_with (first | (go_at_call 50; refine CL.out.mono ?_; rintro e w3 ⟨rfl, H3, hb3⟩; have P3 := Kept.mk H3; have G3 := Kept.mk (G.out.trans (grown_of_below hb3 (some b))); have O3 := Kept.mk (Flt.own_below HR.out hb3); have d1 := H3.c1; clear H3 hb3 CL) | (go_at_call 51; refine (CS.out _ P3.out).mono ?_; rintro e w4 ⟨rfl, H4, hg4⟩; have P4 := Kept.mk H4; have G4 := Kept.mk (G3.out.trans hg4); have O4 := Kept.mk (own_grown hbw O3.out hg4); clear H4 hg4 CS) | (go_at_call 61; refine (CR.out _ P4.out).mono ?_; rintro e w5 ⟨rfl, H5, hg5⟩; have P5 := Kept.mk H5; have G5 := Kept.mk (G4.out.trans hg5); have O5 := Kept.mk (own_grown hbw O4.out hg5); clear H5 hg5) | (at_builtin; refine Lib.wpList_append_own_string _ rfl (.tmp 66) (.tmp 68) 41 9 rfl w.heap.size 5 i0 Tryz.underlying41 Tryz.underlying9 hi hz0 hz1 hz2 _ acc.length (Lib.byteCells acc) (by rfl) O5.out ⟨V.toArray⟩ (by rfl) (by rw [hvs]; unfold maxLen; omega) (by rw [hvs]; omega) G5.out.size ?_; intro v7 w7 hown7 hgrow7 _; have P7 := Kept.mk (Rd.push P0.out P5.out O5.out hgrow7); have G7 := Kept.mk (grown_own G5.out O5.out hgrow7); have O7 := Kept.mk hown7; clear hown7 hgrow7))
            go_roundg g
            case measure => omega
            case rel => exact ⟨acc ++ V, S, P7, G7, ⟨by have h := O7.out; rw [hvs] at h; rw [Lib.byteCells_append, List.length_append]; exact h⟩, HY, by rw [List.length_append]; omega⟩
          by_cases c13 : lk (false, r') = 13
          · obtain ⟨u, rfl⟩ := lk_cons 13 (by decide) (by decide) 13 rfl c13
            have nq : ¬ (13 : UInt8) = q := by rintro rfl; exact cq (by rw [c13]; exact HQ.out)
            rw [Ppa.valF, if_neg nq, if_neg (by decide), if_neg (by decide), if_pos rfl] at HF
            have HY : Kept (ValX q O g (acc ++ [32]) (false, Ppa.nlL u)) := ⟨by unfold ValX; rw [if_neg (by simp)]; exact HF⟩
            have hnl := nlL_len u
            have CS := Kept.mk (fun (W : World) (H : Rd B b s st z (false, 13 :: u) W) => step_r H (by simp))
            dsimp only at CS
            rw [skip_low 13 u (by decide)] at CS
            have CI := Kept.mk (fun (W : World) (H : Rd B b s st z (false, u) W) => is_r 10 (by decide) H)
            rw [isS_nl] at CI
            generalize decide (lk (false, u) = 10) = D at CI
            rw [c13] at CL
            simp only [List.length_cons] at hal
            clear HX HF HTX c0 cq c60 c38 c13 nq
            go_wp2_with (first | (go_at_call 50; refine CL.out.mono ?_; rintro e w3 ⟨rfl, H3, hb3⟩; have P3 := Kept.mk H3; have G3 := Kept.mk (G.out.trans (grown_of_below hb3 (some b))); have O3 := Kept.mk (Flt.own_below HR.out hb3); have d1 := H3.c1; clear H3 hb3 CL) | (go_at_call 51; refine (CS.out _ P3.out).mono ?_; rintro e w4 ⟨rfl, H4, hg4⟩; have P4 := Kept.mk H4; have G4 := Kept.mk (G3.out.trans hg4); have O4 := Kept.mk (own_grown hbw O3.out hg4); clear H4 hg4 CS) | (go_at_call 53; refine (CI.out _ P4.out).mono ?_; rintro e w5 ⟨rfl, H5, hg5⟩; have P5 := Kept.mk H5; have G5 := Kept.mk (G4.out.trans hg5); have O5 := Kept.mk (own_grown hbw O4.out hg5); clear H5 hg5) | (at_builtin; refine wpList_append_own _ rfl (.tmp 77) (.tmp 78) 41 rfl w.heap.size 5 i0 (.int .u8 0) 1 1 Tryz.underlying41 hi hz0 hz1 hz2 rfl (by decide) _ acc.length _ (by rfl) (O5.out.alloc _) ⟨w5.heap.size, 0, none⟩ 1 1 [.int .u8 32] (by rfl) (by rfl) (World.news_of_block (heap_alloc_new _ _)) (by intro u hu; simp at hu; subst hu; rfl) (by unfold maxLen; omega) (by omega) (by have := G5.out.size; simp; omega) ?_; intro v7 w7 hown7 hgrow7 _; have hba := (Below.refl w5.heap.size w5).alloc (Nat.le_refl _) (.cells #[.int .u8 32] 5); have P7 := Kept.mk (Rd.push P0.out (P5.out.below hba) (O5.out.alloc _) hgrow7); have G7 := Kept.mk (grown_own (G5.out.trans (grown_of_below hba _)) (O5.out.alloc _) hgrow7); have O7 := Kept.mk hown7; clear hown7 hgrow7 hba))
            go_roundg g
            case measure => omega
            case rel => exact ⟨acc ++ [32], (false, Ppa.nlL u), P7, G7, ⟨by rw [Lib.byteCells_append, List.length_append]; exact O7.out⟩, HY, by rw [List.length_append]; simp; omega⟩
          have hbk := blk_lk false r'
          have CB := Kept.mk (fun W => rblank_any (lk (false, r')) W)
          have hrne : r' ≠ [] := by rintro rfl; exact c0 (lk_nil _)
          have k1 := lk_head q hql HQ0.out 39 HQ.out cq
          have k2 := lk_head 60 (by decide) (by decide) 60 rfl c60
          have k3 := lk_head 38 (by decide) (by decide) 38 rfl c38
          have k4 := lk_head 13 (by decide) (by decide) 13 rfl c13
          rw [hbk] at CB
          generalize lk (false, r') = C at CL CB c0 cq c60 c38 c13
          have m0 : ¬ (C : Int) = 0 := by omega
          have m1 : ¬ (C : Int) = 39 := by omega
          have m2 : ¬ (C : Int) = 60 := by omega
          have m3 : ¬ (C : Int) = 38 := by omega
          have m4 : ¬ (C : Int) = 13 := by omega
          have q0 : ((C : Int) == 0) = false := by simpa using m0
          have q1 : ((C : Int) == 39) = false := by simpa using m1
          have q2 : ((C : Int) == 60) = false := by simpa using m2
          have q3 : ((C : Int) == 38) = false := by simpa using m3
          have q4 : ((C : Int) == 13) = false := by simpa using m4
          cases hbl : blankH r' with
          | true =>
            obtain ⟨y, u, rfl⟩ : ∃ y u, r' = y :: u := by
              cases r' with
              | nil => cases hbl
              | cons y u => exact ⟨y, u, rfl⟩
            have hy := blankC_low hbl
            have n1 : ¬ y = q := fun e => k1 (by rw [e]; rfl)
            have n2 : ¬ y = 60 := fun e => k2 (by rw [e]; rfl)
            have n3 : ¬ y = 38 := fun e => k3 (by rw [e]; rfl)
            have n4 : ¬ y = 13 := fun e => k4 (by rw [e]; rfl)
            rw [Ppa.valF, if_neg n1, if_neg n2, if_neg n3, if_neg n4, if_pos (show Pch.blankC y = true from hbl)] at HF
            have HY : Kept (ValX q O g (acc ++ [32]) (false, u)) := ⟨by unfold ValX; rw [if_neg (by simp)]; exact HF⟩
            rw [hbl] at CB
            have CS := Kept.mk (fun (W : World) (H : Rd B b s st z (false, y :: u) W) => step_r H (by simp))
            dsimp only at CS
            rw [skip_low y u hy] at CS
            simp only [List.length_cons] at hal
            clear HX HF HTX c0 cq c60 c38 c13 hbk hbl k1 k2 k3 k4 n1 n2 n3 n4 hrne
            go_wp2_with (first | (go_at_call 50; refine CL.out.mono ?_; rintro e w3 ⟨rfl, H3, hb3⟩; have P3 := Kept.mk H3; have G3 := Kept.mk (G.out.trans (grown_of_below hb3 (some b))); have O3 := Kept.mk (Flt.own_below HR.out hb3); have d1 := H3.c1; clear H3 hb3 CL) | (go_at_call 51; refine (CS.out _ P3.out).mono ?_; rintro e w4 ⟨rfl, H4, hg4⟩; have P4 := Kept.mk H4; have G4 := Kept.mk (G3.out.trans hg4); have O4 := Kept.mk (own_grown hbw O3.out hg4); clear H4 hg4 CS) | (go_at_call 48; refine (CB.out _).mono ?_; rintro e w9 ⟨rfl, rfl⟩) | (at_builtin; refine wpList_append_own _ rfl (.tmp 85) (.tmp 86) 41 rfl w.heap.size 5 i0 (.int .u8 0) 1 1 Tryz.underlying41 hi hz0 hz1 hz2 rfl (by decide) _ acc.length _ (by rfl) (O4.out.alloc _) ⟨w4.heap.size, 0, none⟩ 1 1 [.int .u8 32] (by rfl) (by rfl) (World.news_of_block (heap_alloc_new _ _)) (by intro u hu; simp at hu; subst hu; rfl) (by unfold maxLen; omega) (by omega) (by have := G4.out.size; simp; omega) ?_; intro v7 w7 hown7 hgrow7 _; have hba := (Below.refl w4.heap.size w4).alloc (Nat.le_refl _) (.cells #[.int .u8 32] 5); have P7 := Kept.mk (Rd.push P0.out (P4.out.below hba) (O4.out.alloc _) hgrow7); have G7 := Kept.mk (grown_own (G4.out.trans (grown_of_below hba _)) (O4.out.alloc _) hgrow7); have O7 := Kept.mk hown7; clear hown7 hgrow7 hba))
            go_roundg g
            case measure => omega
            case rel => exact ⟨acc ++ [32], (false, u), P7, G7, ⟨by rw [Lib.byteCells_append, List.length_append]; exact O7.out⟩, HY, by rw [List.length_append]; simp; omega⟩
          | false =>
            have hd1 := Lib.decodeL_width r'
            have hd2 := Lib.decodeL_le r' hrne
            rw [hbl] at CB
            have CS := Kept.mk (fun (W : World) (H : Rd B b s st z (false, r') W) => step_r H hrne)
            dsimp only at CS
            have hsk : Ppa.skip r' = r'.drop (Lib.decodeL r').2 := rfl
            have hle := HP.out.len
            have hdr := HP.out.drop
            dsimp only at hle hdr
            obtain ⟨d, hd⟩ : ∃ d, (Lib.decodeL r').2 = d := ⟨_, rfl⟩
            have hxg : ∀ m, m + d = g + 1 → Ppa.valF q m (acc ++ r'.take d) (r'.drop d) = some O := fun m hm => by
              have h := valF_char (f := m) (acc := acc) hql hrne HTX k1 k2 k3 k4 hbl
              rw [hd, hm, HF, hsk, hd] at h
              exact h.symm
            have hgd : d ≤ g + 1 := by rw [← hd]; exact char_few hql hrne HTX HF
            have HY : Kept (ValX q O (g + 1 - d) (acc ++ r'.take d) (false, r'.drop d)) := ⟨by unfold ValX; rw [if_neg (by simp)]; exact hxg _ (by omega)⟩
            rw [hsk, hd] at CS
            rw [hd] at hd1 hd2
            obtain ⟨k, hk⟩ : ∃ k, s.size - r'.length = k := ⟨_, rfl⟩
            have hdl : (r'.drop d).length = r'.length - d := List.length_drop
            have hkd : s.size - (r'.drop d).length = k + d := by omega
            have htl : (r'.take d).length = d := by rw [List.length_take]; omega
            have hxs : s.extract k (k + d) = ⟨(r'.take d).toArray⟩ := by rw [extract_part, ← hk, hdr]
            clear HX HF HTX c0 cq c60 c38 c13 hbk hbl k1 k2 k3 k4 hd hsk hxg hrne hdr
            obtain ⟨A5, c5, rfl, _⟩ := Flt.own_slice HR.out
            have e0' : (0 : Int) ≤ (k : Int) := by omega
            have e1' : (k : Int) ≤ (k : Int) + (d : Int) := by omega
            have e2' : (k : Int) + (d : Int) ≤ (s.size : Int) := by omega
            have e3' : ((k : Int) + (d : Int)).toNat = k + d := by omega
            have hzx : (s.extract k (k + d)).size = d := by rw [hxs, Lib.size_mk, htl]
            have HXS := Kept.mk hxs
            have HZX := Kept.mk hzx
            clear hxs hzx
            go_wp2_with (first | (go_at_call 50; refine CL.out.mono ?_; rintro e w3 ⟨rfl, H3, hb3⟩; have P3 := Kept.mk H3; have G3 := Kept.mk (G.out.trans (grown_of_below hb3 (some b))); have O3 := Kept.mk (Flt.own_below HR.out hb3); have d1 := H3.c1; dsimp only at d1; rw [hk] at d1; clear H3 hb3 CL) | (go_at_call 51; refine (CS.out _ P3.out).mono ?_; rintro e w4 ⟨rfl, H4, hg4⟩; have P4 := Kept.mk H4; have G4 := Kept.mk (G3.out.trans hg4); have O4 := Kept.mk (own_grown hbw O3.out hg4); clear H4 hg4 CS) | (go_at_call 48; refine (CB.out _).mono ?_; rintro e w9 ⟨rfl, rfl⟩))
            have f0 := P4.out.c0
            have f1 := P4.out.c1
            dsimp only at f1
            rw [hkd, show ((k + d : Nat) : Int) = (k : Int) + (d : Int) by omega] at f1
            go_region_law (refine step_append_string rfl (.tmp 32) (.tmp 42) rfl w.heap.size (.slice A5 acc.length c5) acc.length (Lib.byteCells acc) (by rfl) (Flt.own_below O4.out ((Below.refl _ w4).drew)) (s.extract k (k + d)) (by rfl) (by rw [HZX.out]; omega) G4.out.size ?_; intro v7 w7 hown7 hgrow7; have P7 := Kept.mk (Rd.push P0.out (P4.out.below ((Below.refl _ w4).drew)) (Flt.own_below O4.out ((Below.refl _ w4).drew)) hgrow7); have G7 := Kept.mk (grown_own (G4.out.trans (grown_of_below ((Below.refl _ w4).drew) _)) (Flt.own_below O4.out ((Below.refl _ w4).drew)) hgrow7); have O7 := Kept.mk hown7; clear hown7 hgrow7)
            all_goals
              go_wp2
              go_roundg (g + 1 - d)
              case measure => omega
              case rel => exact ⟨acc ++ r'.take d, (false, r'.drop d), P7, G7, ⟨by have h := O7.out; rw [HZX.out, HXS.out] at h; rw [Lib.byteCells_append, List.length_append, htl]; exact h⟩, HY, by rw [List.length_append, htl]; show acc.length + d + 4 * (r'.drop d).length ≤ 400000; omega⟩
        · have HTT : Kept (T = ((true, r'), [])) := ⟨by have h := HX.out; unfold ValX at h; rw [if_pos rfl] at h; rw [HV.out, h]; rfl⟩
          clear HX
          go_wp2
          go_ret
          rw [HTT.out]
          exact ⟨rfl, HP.out, G.out⟩
  · have n1 : lk (x, r) ≠ 34 := fun e => hq (.inl e)
    have n2 : lk (x, r) ≠ 39 := fun e => hq (.inr e)
    rw [valS_no n1 n2]
    generalize lk (x, r) = C at CL n1 n2
    have i1 : ¬ (C : Int) = 34 := by omega
    have i2 : ¬ (C : Int) = 39 := by omega
    have j1 : ((C : Int) != 34) = true := by simpa using i1
    have j2 : ((C : Int) != 39) = true := by simpa using i2
    clear hq
    go_enter Tryz.func124, Tryz.ntmps124
    go_wp2_with (first | (go_at_call 50; refine CL.out.mono ?_; rintro e w1 ⟨rfl, H1, hb1⟩; have P1 := Kept.mk H1; have G1 := Kept.mk (grown_of_below hb1 (some b)); clear H1 hb1) | (go_at_call 52; refine (no_r P1.out).mono ?_; rintro e w2 ⟨rfl, H2, hg2⟩; have G2 := Kept.mk (G1.out.trans hg2); clear hg2))
    go_ret
    exact ⟨rfl, H2, G2.out⟩
end
end Go.Proofs.YtlemdhfekdiaeaaGreatDoor.Wrd
namespace Go.Proofs.YtlemdhfekdiaeaaGreatDoor.Wrd
open Go Go.RowKit Go.Proofs.YtlemdhfekdiaeaaGreatDoor.Kb Go.Proofs.YtlemdhfekdiaeaaGreatDoor.Wch Go.Proofs.YtlemdhfekdiaeaaGreatDoor.Wps Go.Proofs.YtlemdhfekdiaeaaGreatDoor.Emk Go.PlainAid

/-- the reader, wherever its rows lie -/
def Re (B b : Nat) (s : ByteArray) (st : Ppa.St) (σ : Sg) (w : World) : Prop := ∃ z, Rd B b s st z σ w
section
variable {B b : Nat} {s : ByteArray} {st : Ppa.St} {z : Option Addr × Nat × Value} {σ : Sg} {w w7 : World}
theorem Rd.apart (h : Rd B b s st z σ w) : z.2.2.ownBlock = none ∨ ∃ g, z.2.2.ownBlock = some g ∧ (Value.slice z.1 st.nodes.length z.2.1).ownBlock ≠ some g := by
  have hx := h.ex
  cases hv : z.2.2.ownBlock with
  | none => exact .inl rfl
  | some g =>
    refine .inr ⟨g, rfl, ?_⟩
    rcases hx.buf.2 with ⟨e, _⟩ | ⟨g2, cap, cur, e, _, hg, _⟩
    · rw [e] at hv; cases hv
    · rw [e] at hv
      have e : g2 = g := by simpa [Value.ownBlock] using hv
      subst e
      exact nodes_ne hg (by decide) hx.nds
/-- a node more -/
theorem Rd.node {A7 : Option Addr} {c7 : Nat} {y : Ptr.Nd} (h : Rd B b s st z σ w) (hg : w.grownBy w7 (Value.slice z.1 st.nodes.length z.2.1).ownBlock)
    (ho : w7.ownsRow B 35 4 (.slice A7 (st.nodes.length + 1) c7) (st.nodes.length + 1) (Wtr.ndsC (st.nodes ++ [y]))) :
    Rd B b s { st with nodes := st.nodes ++ [y] } (A7, c7, z.2.2) σ (w7.setCell ⟨b, 3, none⟩ (.slice A7 (st.nodes.length + 1) c7)) ∧ Below B w (w7.setCell ⟨b, 3, none⟩ (.slice A7 (st.nodes.length + 1) c7)) := by
  have X := h.ex
  have hb7 := (hg.block b X.lt (fun e => X.ndsn e.symm)).trans X.blk
  have hne := nodes_ne hb7 (by decide) ho
  have hbuf : w7.ownsRow B 5 1 z.2.2 st.text.length (Lib.byteCells st.text) := X.buf.kept hg (by
    rcases h.apart with e | ⟨g, e, e2⟩
    · exact .inl e
    · exact .inr (by rw [e]; exact fun e3 => e2 e3.symm))
  have hlen : (st.nodes ++ [y]).length = st.nodes.length + 1 := by simp
  have hbel : Below B w (w7.setCell ⟨b, 3, none⟩ (.slice A7 (st.nodes.length + 1) c7)) := (Below.grown (Below.refl B w) hg h.hB (fun k hk => (X.nds.lt k hk).1)).setCell (p := ⟨b, 3, none⟩) h.le _
  refine ⟨⟨⟨?_, ?_, ?_⟩, h.suf, h.tx, h.le, Nat.le_trans h.hB hbel.size, h.small⟩, hbel⟩
  · rw [Joins.block_setCell hb7]
    show _ = some (Obj.cells #[.string s, .int .i64 _, .bool σ.1, .slice A7 (st.nodes ++ [y]).length c7, z.2.2, _, _] _ _)
    rw [hlen]
    rfl
  · exact Flt.own_other hbuf (own_block_ne hb7 (by decide) hbuf)
  · show World.ownsRow _ B _ 4 (.slice A7 (st.nodes ++ [y]).length c7) (st.nodes ++ [y]).length _
    rw [hlen]
    exact Flt.own_other ho hne
/-- the text anew -/
theorem Rd.text {v7 : Value} {u : Ppa.Bs} (h : Rd B b s st z σ w) (hg : w.grownBy w7 z.2.2.ownBlock) (ho : w7.ownsRow B 5 1 v7 u.length (Lib.byteCells u)) :
    Rd B b s { st with text := u } (z.1, z.2.1, v7) σ (w7.setCell ⟨b, 4, none⟩ v7) ∧ Below B w (w7.setCell ⟨b, 4, none⟩ v7) := by
  have X := h.ex
  have hb7 := (hg.block b X.lt (fun e => X.bufn e.symm)).trans X.blk
  have hnds : w7.ownsRow B 35 4 (.slice z.1 st.nodes.length z.2.1) st.nodes.length (Wtr.ndsC st.nodes) := X.nds.kept hg (by
    rcases h.apart with e | ⟨g, e, e2⟩
    · cases hn : (Value.slice z.1 st.nodes.length z.2.1).ownBlock with
      | none => exact .inl rfl
      | some g => exact .inr (by rw [e]; simp)
    · exact .inr (by rw [e]; exact e2))
  have hbel : Below B w (w7.setCell ⟨b, 4, none⟩ v7) := (Below.grown (Below.refl B w) hg h.hB (fun k hk => (X.buf.lt k hk).1)).setCell (p := ⟨b, 4, none⟩) h.le _
  refine ⟨⟨⟨?_, ?_, ?_⟩, h.suf, h.tx, h.le, Nat.le_trans h.hB hbel.size, h.small⟩, hbel⟩
  · rw [Joins.block_setCell hb7]
    rfl
  · exact Flt.own_other ho (own_block_ne hb7 (by decide) ho)
  · exact Flt.own_other hnds (nodes_ne hb7 (by decide) hnds)
theorem Rd.low {w' : World} (h : Rd B b s st z σ w) (hg : w.grownBy w' (some b)) : Below B w w' := grown_low hg h.hB h.le
set_option maxRecDepth 100000 in
set_option maxHeartbeats 2000000 in
theorem radd_any (k : Nat) (nm vl : Ppa.Bs) (p : Int) (h : Re B b s st σ w) (h1 : st.nodes.length ≤ 1000000) :
    Calls Tryz.prog 47 #[.pointer (some ⟨b, 0, none⟩), ndV (k : Int) nm vl p] w fun e w' => e = .returned (.int .i64 (st.nodes.length : Int)) ∧ Re B b s { st with nodes := st.nodes ++ [(k, nm, vl, p)] } σ w' ∧ Below B w w' := by
  obtain ⟨⟨A, c, v⟩, h⟩ := h
  have hb1 : Below w.heap.size w (w.alloc (.cells #[.int .u8 (k : Int), .string ⟨nm.toArray⟩, .string ⟨vl.toArray⟩, .int .i64 p] 35)) := (Below.refl _ _).alloc (Nat.le_refl _) _
  have hs := h.below hb1
  have HB := Kept.mk (hb1.mono h.hB)
  unfold ndV
  have hc := box_cells w (k : Int) p nm vl 35
  have hlg : w.heap.size < (w.alloc (.cells #[.int .u8 (k : Int), .string ⟨nm.toArray⟩, .string ⟨vl.toArray⟩, .int .i64 p] 35)).heap.size := by simp
  clear h hb1
  go_enter Tryz.func47, Tryz.ntmps47
  go_wp2
  generalize w.alloc (.cells #[.int .u8 (k : Int), .string ⟨nm.toArray⟩, .string ⟨vl.toArray⟩, .int .i64 p] 35) = W at *
  have n0 := hc 0 _ rfl
  have n1 := hc 1 _ rfl
  have n2 := hc 2 _ rfl
  have n3 := hc 3 _ rfl
  have X := hs.ex
  have d3 := X.c3
  have hlt := X.lt
  have hBW := hs.hB
  have HS := Kept.mk hs
  have HX := Kept.mk X
  have HN := Kept.mk X.nds
  dsimp only at d3 HN
  clear hc X hs
  go_region_law (refine step_append_nd rfl (.tmp 9) (.tmp 11) rfl B (.slice A st.nodes.length c) st.nodes.length st.nodes (by rfl) (Flt.own_below HN.out (((Below.refl _ W).drew).alloc (Nat.le_refl _) (.cells #[.int .u8 (k : Int), .string ⟨nm.toArray⟩, .string ⟨vl.toArray⟩, .int .i64 p] 35))) W.heap.size (k, nm, vl, p) (by rfl) (World.news_of_block (heap_alloc_new _ _)) (by omega) (by simp; omega) ?_; intro v7 w7 ho7 hg7; obtain ⟨A7, c7, rfl, _⟩ := Flt.own_slice ho7; have hg8 := alloc_grown hg7; have hb7 := (hg8.block b hlt (fun e => HX.out.ndsn e.symm)).trans HX.out.blk; have e2 : w7.cell? ⟨b, 3, none⟩ = some (.slice A st.nodes.length c) := (by rw [cell_of_row w7 b _ _ _ _ hb7]; rfl); have f2 : w7.frozen? ⟨b, 3, none⟩ = false := Joins.unfrozen_of_block hb7 _; have HP := Kept.mk (HS.out.node hg8 ho7); clear ho7 hg7 hg8 hb7)
  all_goals
    have hz8 : ({ st with nodes := st.nodes ++ [(k, nm, vl, p)] } : Ppa.St).nodes.length = st.nodes.length + 1 := by simp
    have d8 := HP.out.1.ex.c3
    rw [hz8] at d8
    dsimp only at d8
    clear hz8
    go_wp2
    go_ret
    exact ⟨ret_int (by omega), ⟨_, HP.out.1⟩, HB.out.trans HP.out.2⟩
theorem Re.low {w' : World} (h : Re B b s st σ w) (hg : w.grownBy w' (some b)) : Below B w w' := by
  obtain ⟨z, h⟩ := h
  exact h.low hg
theorem Re.below {w' : World} (h : Re B b s st σ w) (hb : Below w.heap.size w w') : Re B b s st σ w' := by
  obtain ⟨z, h⟩ := h
  exact ⟨z, h.below hb⟩
set_option maxRecDepth 100000 in
set_option maxHeartbeats 2000000 in
theorem rflush_any (p : Int) (h : Re B b s st σ w) (h1 : st.nodes.length ≤ 1000000) (h2 : st.text.length ≤ 1000000) :
    Calls Tryz.prog 59 #[.pointer (some ⟨b, 0, none⟩), .int .i64 p] w fun e w' => e = .returned (.tuple #[]) ∧ Re B b s (Ppa.flush st p) σ w' ∧ Below B w w' := by
  obtain ⟨⟨A, c, v⟩, h⟩ := h
  have X := h.ex
  obtain ⟨A5, c5, rfl, _⟩ := Flt.own_slice X.buf
  have d4 := X.c4
  have f4 := X.unf 4
  have HH := Kept.mk h
  have HX := Kept.mk X
  have HB0 := h.le
  clear h X
  by_cases h0 : st.text = []
  · rw [Wps.flush_none p h0]
    have hz : st.text.length = 0 := by rw [h0]; rfl
    rw [hz] at d4
    have hT := Kept.mk (HH.out.text (v7 := .slice none 0 0) (u := []) (World.grownBy.refl _ _) (World.ownsRow_nil _ _ _ _))
    have hst : ({ st with text := [] } : Ppa.St) = st := by rw [← h0]
    rw [hst] at hT
    clear h0 hst hz
    go_enter Tryz.func59, Tryz.ntmps59
    go_wp2
    go_end0
    exact ⟨rfl, ⟨_, hT.out.1⟩, hT.out.2⟩
  · rw [Wps.flush_some p h0]
    have hp := List.length_pos_iff.2 h0
    have hp' : (0 : Int) < (st.text.length : Int) := by omega
    have hcv := conv_own2 _ HX.out.buf rfl
    have CA := Kept.mk (radd_any 4 [] st.text p ⟨_, HH.out⟩ h1)
    unfold ndV at CA
    clear h0
    go_enter Tryz.func59, Tryz.ntmps59
    go_wp2_with (go_at_call 47; refine CA.out.mono ?_; rintro e w5 ⟨rfl, ⟨⟨A2, c2, v2⟩, H2⟩, hb2⟩; have e4 := H2.ex.c4; have f5 := H2.ex.unf 4; have P2 := Kept.mk H2; have B2 := Kept.mk hb2; clear H2 hb2)
    go_end0
    have hT := P2.out.text (v7 := .slice none 0 0) (u := []) (World.grownBy.refl _ _) (World.ownsRow_nil _ _ _ _)
    exact ⟨rfl, ⟨_, hT.1⟩, B2.out.trans hT.2⟩
theorem rxml_any (u : Ppa.Bs) (w : World) (hu : u.length ≤ 1000000) : Calls Tryz.prog 89 #[.string ⟨u.toArray⟩] w fun e w' => e = .returned (.bool (Ptr.isXml u)) ∧ w = w' := by
  have hz : (⟨u.toArray⟩ : ByteArray).size = u.length := Lib.size_mk u
  by_cases h3 : u.length = 3
  · obtain ⟨a, b, c, rfl⟩ : ∃ a b c, u = [a, b, c] := by
      match u, h3 with
      | [a, b, c], _ => exact ⟨a, b, c, rfl⟩
    have b0 : bt (⟨([a, b, c] : Ppa.Bs).toArray⟩) 0 = (a.toNat : Int) := by rw [bt_getD]; rfl
    have b1 : bt (⟨([a, b, c] : Ppa.Bs).toArray⟩) 1 = (b.toNat : Int) := by rw [bt_getD]; rfl
    have b2 : bt (⟨([a, b, c] : Ppa.Bs).toArray⟩) 2 = (c.toNat : Int) := by rw [bt_getD]; rfl
    have hX : Ptr.isXml [a, b, c] = decide ((a.toNat = 120 ∨ a.toNat = 88) ∧ (b.toNat = 109 ∨ b.toNat = 77) ∧ (c.toNat = 108 ∨ c.toNat = 76)) := by
      rw [Bool.eq_iff_iff]
      simp only [Ptr.isXml, Bool.and_eq_true, Bool.or_eq_true, beq_iff_eq, decide_eq_true_eq, ← UInt8.toNat_inj]
      simp only [and_assoc]
      rfl
    rw [hX]
    have hb := get_bt (⟨([a, b, c] : Ppa.Bs).toArray⟩)
    have hs3 : (⟨([a, b, c] : Ppa.Bs).toArray⟩ : ByteArray).size = 3 := hz
    generalize (⟨([a, b, c] : Ppa.Bs).toArray⟩ : ByteArray) = S at *
    clear hX hz h3
    generalize a.toNat = x at *
    generalize b.toNat = y at *
    generalize c.toNat = v at *
    go_enter Tryz.func89, Tryz.ntmps89
    go_wp2
    all_goals
      go_ret
      refine ⟨Wps.ret_bool ?_, rfl⟩
      clear hb b0 b1 b2 hs3
      rw [eq_comm]
      first
        | (rw [decide_eq_true_iff]; omega)
        | (rw [decide_eq_false_iff_not]; omega)
        | (rw [Bool.eq_iff_iff]; simp only [decide_eq_true_eq, Bool.or_eq_true, beq_iff_eq]; omega)
  · have hX : Ptr.isXml u = false := by
      unfold Ptr.isXml
      split
      · exact absurd rfl h3
      · rfl
    rw [hX]
    have e1 : ¬ ((⟨u.toArray⟩ : ByteArray).size : Int) = 3 := by rw [hz]; omega
    have e2 : (((⟨u.toArray⟩ : ByteArray).size : Int) == 3) = false := by simpa using e1
    clear hX h3
    go_enter Tryz.func89, Tryz.ntmps89
    go_wp2
    go_ret
    exact ⟨rfl, rfl⟩
end
end Go.Proofs.YtlemdhfekdiaeaaGreatDoor.Wrd
namespace Go.Proofs.YtlemdhfekdiaeaaGreatDoor.Wrd
open Go Go.RowKit Go.Proofs.YtlemdhfekdiaeaaGreatDoor.Kb Go.Proofs.YtlemdhfekdiaeaaGreatDoor.Wch Go.Proofs.YtlemdhfekdiaeaaGreatDoor.Wps Go.Proofs.YtlemdhfekdiaeaaGreatDoor.Emk Go.PlainAid

/-- how a part of a text ends -/
def EndR (B b : Nat) (s : ByteArray) (o : Except Ppa.Bs (Ppa.Bs × Ppa.St)) (w : World) : Prop := match o with
  | .ok (r, st) => Re B b s st (false, r) w
  | .error t => ∃ st, Re B b s st (true, t) w
theorem endR_ok {B b : Nat} {s : ByteArray} {r : Ppa.Bs} {st : Ppa.St} {w : World} (h : Re B b s st (false, r) w) : EndR B b s (.ok (r, st)) w := h
theorem endR_no {B b : Nat} {s : ByteArray} {r : Ppa.Bs} {st : Ppa.St} {w : World} (h : Re B b s st (true, r) w) : EndR B b s (.error r) w := ⟨st, h⟩
section
variable {B b : Nat} {s : ByteArray} {st : Ppa.St} {σ : Sg} {w : World}
/-! ### the lexical calls, wherever the rows lie -/
theorem Re.len (h : Re B b s st σ w) : σ.2.length ≤ s.size := by obtain ⟨z, h⟩ := h; exact h.len
theorem Re.small (h : Re B b s st σ w) : s.size ≤ 65536 := by obtain ⟨z, h⟩ := h; exact h.small
theorem Re.tx (h : Re B b s st σ w) : Pch.textsL σ.2 = true := by obtain ⟨z, h⟩ := h; exact h.tx
theorem Re.c1 (h : Re B b s st σ w) : w.cell? ⟨b, 1, none⟩ = some (.int .i64 ((s.size - σ.2.length : Nat) : Int)) := by obtain ⟨z, h⟩ := h; exact h.c1
theorem Re.c2 (h : Re B b s st σ w) : w.cell? ⟨b, 2, none⟩ = some (.bool σ.1) := by obtain ⟨z, h⟩ := h; exact h.c2
theorem Re.hB (h : Re B b s st σ w) : B ≤ w.heap.size := by obtain ⟨z, h⟩ := h; exact h.hB
theorem look_e (h : Re B b s st σ w) : Calls Tryz.prog 50 #[.pointer (some ⟨b, 0, none⟩)] w fun e w' => e = .returned (.int .i32 (lk σ : Int)) ∧ Re B b s st σ w' ∧ Below B w w' := by
  obtain ⟨z, h⟩ := h
  exact (look_r h).mono fun e w' ⟨he, h1, hb⟩ => ⟨he, ⟨z, h1⟩, hb.mono h.hB⟩
theorem step_e (h : Re B b s st σ w) (hr : σ.2 ≠ []) : Calls Tryz.prog 51 #[.pointer (some ⟨b, 0, none⟩)] w fun e w' => e = .returned (.tuple #[]) ∧ Re B b s st (σ.1, Ppa.skip σ.2) w' ∧ Below B w w' := by
  obtain ⟨z, h⟩ := h
  exact (step_r h hr).mono fun e w' ⟨he, h1, hg⟩ => ⟨he, ⟨z, h1⟩, h.low hg⟩
theorem no_e (h : Re B b s st σ w) : Calls Tryz.prog 52 #[.pointer (some ⟨b, 0, none⟩)] w fun e w' => e = .returned (.tuple #[]) ∧ Re B b s st (true, σ.2) w' ∧ Below B w w' := by
  obtain ⟨z, h⟩ := h
  exact (no_r h).mono fun e w' ⟨he, h1, hg⟩ => ⟨he, ⟨z, h1⟩, h.low hg⟩
theorem is_e (c : Nat) (hc : 0 < c) (h : Re B b s st σ w) : Calls Tryz.prog 53 #[.pointer (some ⟨b, 0, none⟩), .int .i32 (c : Int)] w fun e w' => e = .returned (.bool (decide (lk σ = c))) ∧ Re B b s st (isS c σ) w' ∧ Below B w w' := by
  obtain ⟨z, h⟩ := h
  exact (is_r c hc h).mono fun e w' ⟨he, h1, hg⟩ => ⟨he, ⟨z, h1⟩, h.low hg⟩
theorem must_e (a : ByteArray) (ha : ∀ c ∈ a.data.toList, 0 < c.toNat ∧ c.toNat < 128) (hz : a.size ≤ 1000000) (h : Re B b s st σ w) : Calls Tryz.prog 55 #[.pointer (some ⟨b, 0, none⟩), .string a] w fun e w' => e = .returned (.tuple #[]) ∧ Re B b s st (mustB a.data.toList σ) w' ∧ Below B w w' := by
  obtain ⟨z, h⟩ := h
  exact (must_r a ha hz h).mono fun e w' ⟨he, h1, hg⟩ => ⟨he, ⟨z, h1⟩, h.low hg⟩
theorem blanks_e (h : Re B b s st σ w) : Calls Tryz.prog 86 #[.pointer (some ⟨b, 0, none⟩)] w fun e w' => e = .returned (.tuple #[]) ∧ Re B b s st (blanksB σ) w' ∧ Below B w w' := by
  obtain ⟨z, h⟩ := h
  exact (blanks_r h).mono fun e w' ⟨he, h1, hg⟩ => ⟨he, ⟨z, h1⟩, h.low hg⟩
theorem name_e (h : Re B b s st σ w) : Calls Tryz.prog 88 #[.pointer (some ⟨b, 0, none⟩)] w fun e w' => e = .returned (.string ⟨(nameS σ).2.toArray⟩) ∧ Re B b s st (nameS σ).1 w' ∧ Below B w w' := by
  obtain ⟨z, h⟩ := h
  exact (name_r h).mono fun e w' ⟨he, h1, hg⟩ => ⟨he, ⟨z, h1⟩, h.low hg⟩
theorem until_e (a : ByteArray) (c : UInt8) (e0 : Ppa.Bs) (hac : a.data.toList = c :: e0) (hlow : ∀ x ∈ a.data.toList, x.toNat < 128) (ha2 : a.size ≤ 100) (h : Re B b s st σ w) : Calls Tryz.prog 90 #[.pointer (some ⟨b, 0, none⟩), .string a] w fun e w' => e = .returned (.string ⟨(untilS a.data.toList σ).2.toArray⟩) ∧ Re B b s st (untilS a.data.toList σ).1 w' ∧ Below B w w' := by
  obtain ⟨z, h⟩ := h
  exact (until_r a c e0 hac hlow ha2 h).mono fun e w' ⟨he, h1, hg⟩ => ⟨he, ⟨z, h1⟩, h.low hg⟩
theorem value_e (h : Re B b s st σ w) : Calls Tryz.prog 124 #[.pointer (some ⟨b, 0, none⟩)] w fun e w' => e = .returned (.string ⟨(valS σ).2.toArray⟩) ∧ Re B b s st (valS σ).1 w' ∧ Below B w w' := by
  obtain ⟨z, h⟩ := h
  exact (value_r h).mono fun e w' ⟨he, h1, hg⟩ => ⟨he, ⟨z, h1⟩, h.low hg⟩
theorem nameS_is {r : Ppa.Bs} : (∀ nm t, Ppa.nameM r = .ok (nm, t) → nameS (false, r) = ((false, t), nm)) ∧ (∀ t, Ppa.nameM r = .error t → nameS (false, r) = ((true, t), [])) := by
  unfold nameS
  exact ⟨fun nm t h => (by rw [if_neg (by simp)]; dsimp only; rw [h]), fun t h => (by rw [if_neg (by simp)]; dsimp only; rw [h])⟩
theorem mustB_is {a r : Ppa.Bs} : (∀ t, Ppa.mustL a r = .ok t → mustB a (false, r) = (false, t)) ∧ (∀ t, Ppa.mustL a r = .error t → mustB a (false, r) = (true, t)) := by
  unfold mustB
  exact ⟨fun t h => (by rw [if_neg (by simp)]; dsimp only; rw [h]), fun t h => (by rw [if_neg (by simp)]; dsimp only; rw [h])⟩
theorem untilS_is {a r : Ppa.Bs} : (∀ v t, Ppa.untilR a r = .ok (v, t) → untilS a (false, r) = ((false, t), v)) ∧ (∀ t, Ppa.untilR a r = .error t → untilS a (false, r) = ((true, t), [])) := by
  unfold untilS Ppa.untilR
  rw [if_neg (by simp)]
  dsimp only
  cases Ppa.untilM a r with
  | none => exact ⟨fun v t h => (by cases h), fun t h => (by injection h with h; rw [h])⟩
  | some q => exact ⟨fun v t h => (by injection h with h; rw [h]), fun t h => (by cases h)⟩
theorem valS_is {r : Ppa.Bs} : (∀ v t, Ppa.valM r = .ok (v, t) → valS (false, r) = ((false, t), v)) ∧ (∀ t, Ppa.valM r = .error t → valS (false, r) = ((true, t), [])) := by
  rw [valS_eq]
  exact ⟨fun v t h => (by rw [h]; rfl), fun t h => (by rw [h]; rfl)⟩
theorem mustB_true (a r : Ppa.Bs) : mustB a (true, r) = (true, r) := rfl
theorem blanksB_true (r : Ppa.Bs) : blanksB (true, r) = (true, r) := rfl
theorem blanksB_false (r : Ppa.Bs) : blanksB (false, r) = (false, Ppa.blanksL r) := rfl
theorem untilS_true (a r : Ppa.Bs) : untilS a (true, r) = ((true, r), []) := rfl
theorem valS_true (r : Ppa.Bs) : valS (true, r) = ((true, r), []) := rfl
theorem nameS_true (r : Ppa.Bs) : nameS (true, r) = ((true, r), []) := rfl
theorem add_is {st : Ppa.St} {k : Nat} {nm vl : Ppa.Bs} {p : Int} (hk : k ≠ 3) : ({ Ppa.flush st p with nodes := (Ppa.flush st p).nodes ++ [(k, nm, vl, p)] } : Ppa.St) = Ppa.add st (k, nm, vl, p) := (add_other hk).symm
theorem add_is3 {st : Ppa.St} {nm vl : Ppa.Bs} {p : Int} : ({ st with nodes := st.nodes ++ [(3, nm, vl, p)] } : Ppa.St) = Ppa.add st (3, nm, vl, p) := rfl
set_option maxRecDepth 100000 in
set_option maxHeartbeats 4000000 in
theorem rcomment_any {r : Ppa.Bs} (p : Int) (h : Re B b s st (false, r) w) (hm : Ppa.meas st r ≤ 800000) :
    Calls Tryz.prog 56 #[.pointer (some ⟨b, 0, none⟩), .int .i64 p] w fun e w' => e = .returned (.tuple #[]) ∧ EndR B b s (Ppa.commM p r st) w' ∧ Below B w w' := by
  have hs9 := h.small
  have hll := h.len
  dsimp only at hll
  unfold Ppa.meas at hm
  have hfl := flush_len st p
  have HB0 := Kept.mk (Below.refl B w)
  obtain ⟨σ1, h1⟩ : ∃ σ1, mustB [45] (false, r) = σ1 := ⟨_, rfl⟩
  obtain ⟨σ2, v2, h2⟩ : ∃ σ2 v2, untilS [45, 45] σ1 = (σ2, v2) := ⟨_, _, rfl⟩
  obtain ⟨σ3, h3⟩ : ∃ σ3, mustB [62] σ2 = σ3 := ⟨_, rfl⟩
  have hE : (σ3.1 = true → Ppa.commM p r st = .error σ3.2) ∧ (σ3.1 = false → Ppa.commM p r st = .ok (σ3.2, Ppa.add st (5, [], Ppa.said v2, p)) ∧ v2.length ≤ r.length) := by
    unfold Ppa.commM
    cases e1 : Ppa.mustL [45] r with
    | error r1 =>
      rw [mustB_is.2 r1 e1] at h1
      subst h1
      rw [untilS_true] at h2
      injection h2 with h2 _
      subst h2
      rw [mustB_true] at h3
      subst h3
      exact ⟨fun _ => rfl, fun h => by cases h⟩
    | ok r1 =>
      rw [mustB_is.1 r1 e1] at h1
      subst h1
      have hl1 := (Ppa.mustL_suf e1).length_le
      cases e2 : Ppa.untilR [45, 45] r1 with
      | error r2 =>
        rw [untilS_is.2 r2 e2] at h2
        injection h2 with h2 _
        subst h2
        rw [mustB_true] at h3
        subst h3
        exact ⟨fun _ => by dsimp only; rw [e2], fun h => by cases h⟩
      | ok q =>
        obtain ⟨v, r2⟩ := q
        rw [untilS_is.1 v r2 e2] at h2
        injection h2 with h2 h2'
        subst h2 h2'
        have hl2 : v.length ≤ r1.length := by
          unfold Ppa.untilR at e2
          cases hu : Ppa.untilM [45, 45] r1 with
          | none => rw [hu] at e2; cases e2
          | some q =>
            rw [hu] at e2
            injection e2 with e2
            subst e2
            rw [Ppa.untilM_app _ _ _ _ hu]
            simp
        cases e3 : Ppa.mustL [62] r2 with
        | error r3 =>
          rw [mustB_is.2 r3 e3] at h3
          subst h3
          exact ⟨fun _ => by dsimp only; rw [e2]; dsimp only; rw [e3], fun h => by cases h⟩
        | ok r3 =>
          rw [mustB_is.1 r3 e3] at h3
          subst h3
          exact ⟨fun h => (by cases h), fun _ => ⟨by dsimp only; rw [e2]; dsimp only; rw [e3], by omega⟩⟩
  have C1 := Kept.mk (must_e ⟨#[45]⟩ (by decide) (by decide) h)
  rw [show (⟨#[45]⟩ : ByteArray).data.toList = [45] from rfl, h1] at C1
  have C2 := Kept.mk (fun (W : World) (H : Re B b s st σ1 W) => until_e ⟨#[45, 45]⟩ 45 [45] rfl (by decide) (by decide) H)
  rw [show (⟨#[45, 45]⟩ : ByteArray).data.toList = [45, 45] from rfl, h2] at C2
  have C3 := Kept.mk (fun (W : World) (H : Re B b s st σ2 W) => must_e ⟨#[62]⟩ (by decide) (by decide) H)
  rw [show (⟨#[62]⟩ : ByteArray).data.toList = [62] from rfl, h3] at C3
  have HE := Kept.mk hE
  clear h1 h2 h3 hE h
  obtain ⟨x, t⟩ := σ3
  generalize hC : Ppa.commM p r st = O at HE
  clear hC
  cases x
  · obtain ⟨hO, hv⟩ := HE.out.2 rfl
    dsimp only at hO
    subst hO
    have CF := Kept.mk (fun (W : World) (H : Re B b s st (false, t) W) => rflush_any p H (by omega) (by omega))
    have CA := Kept.mk (fun (W : World) (H : Re B b s (Ppa.flush st p) (false, t) W) => radd_any 5 [] (Ppa.said v2) p H (by omega))
    have CD := Kept.mk (fun (W : World) => rsaid_any ⟨v2.toArray⟩ W (by rw [Lib.size_mk]; omega))
    unfold ndV at CA
    go_enter Tryz.func56, Tryz.ntmps56
    go_wp2_with (first | (go_at_call 55; refine C1.out.mono ?_; rintro e w1 ⟨rfl, H1, hb1⟩; have P1 := Kept.mk H1; have B1 := Kept.mk hb1; clear H1 hb1 C1) | (go_at_call 90; refine (C2.out _ P1.out).mono ?_; rintro e w2 ⟨rfl, H2, hb2⟩; have P2 := Kept.mk H2; have B2 := Kept.mk (B1.out.trans hb2); clear H2 hb2 C2) | (go_at_call 55; refine (C3.out _ P2.out).mono ?_; rintro e w3 ⟨rfl, H3, hb3⟩; have c2 := H3.c2; have P3 := Kept.mk H3; have B3 := Kept.mk (B2.out.trans hb3); clear H3 hb3 C3) | (go_at_call 59; refine (CF.out _ P3.out).mono ?_; rintro e w4 ⟨rfl, H4, hb4⟩; have P4 := Kept.mk H4; have B4 := Kept.mk (B3.out.trans hb4); clear H4 hb4 CF) | (go_at_call 91; refine (CD.out _).mono ?_; rintro e w5 ⟨rfl, hb5⟩; have P5 := Kept.mk (P4.out.below hb5); have B5 := Kept.mk (B4.out.trans (hb5.mono P4.out.hB)); clear hb5 CD) | (go_at_call 47; refine (CA.out _ P5.out).mono ?_; rintro e w6 ⟨rfl, H6, hb6⟩; have P6 := Kept.mk H6; have B6 := Kept.mk (B5.out.trans hb6); clear H6 hb6 CA))
    go_end0
    exact ⟨rfl, endR_ok (by have h := P6.out; rw [add_is (by decide)] at h; exact h), B6.out⟩
  · have hO := HE.out.1 rfl
    dsimp only at hO
    subst hO
    go_enter Tryz.func56, Tryz.ntmps56
    go_wp2_with (first | (go_at_call 55; refine C1.out.mono ?_; rintro e w1 ⟨rfl, H1, hb1⟩; have P1 := Kept.mk H1; have B1 := Kept.mk hb1; clear H1 hb1 C1) | (go_at_call 90; refine (C2.out _ P1.out).mono ?_; rintro e w2 ⟨rfl, H2, hb2⟩; have P2 := Kept.mk H2; have B2 := Kept.mk (B1.out.trans hb2); clear H2 hb2 C2) | (go_at_call 55; refine (C3.out _ P2.out).mono ?_; rintro e w3 ⟨rfl, H3, hb3⟩; have c2 := H3.c2; have P3 := Kept.mk H3; have B3 := Kept.mk (B2.out.trans hb3); clear H3 hb3 C3))
    go_end0
    exact ⟨rfl, endR_no P3.out, B3.out⟩
set_option maxRecDepth 100000 in
set_option maxHeartbeats 4000000 in
theorem rpi_any {r : Ppa.Bs} (p : Int) (h : Re B b s st (false, r) w) (hm : Ppa.meas st r ≤ 800000) :
    Calls Tryz.prog 54 #[.pointer (some ⟨b, 0, none⟩), .int .i64 p] w fun e w' => e = .returned (.tuple #[]) ∧ EndR B b s (Ppa.instrM p r st) w' ∧ Below B w w' := by
  have hs9 := h.small
  have hll := h.len
  dsimp only at hll
  unfold Ppa.meas at hm
  have hfl := flush_len st p
  have HB0 := Kept.mk (Below.refl B w)
  have CN := Kept.mk (name_e h)
  cases hn : Ppa.nameM r with
  | error t =>
    rw [nameS_is.2 t hn] at CN
    rw [show Ppa.instrM p r st = .error t by unfold Ppa.instrM; rw [hn]]
    clear h hn
    go_enter Tryz.func54, Tryz.ntmps54
    go_wp2_with (first | (go_at_call 88; refine (CN.out).mono ?_; rintro e w1 ⟨rfl, H1, hb1⟩; have c2 := H1.c2; have P1 := Kept.mk H1; have B1 := Kept.mk (HB0.out.trans hb1); clear H1 hb1 CN))
    refine bodyPost_ret (results_none rfl _ _ _) rfl ?_
    exact ⟨rfl, endR_no P1.out, B1.out⟩
  | ok q =>
    obtain ⟨nm, r1⟩ := q
    rw [nameS_is.1 nm r1 hn] at CN
    have hnl := Ppa.nameM_lt hn
    have CX := Kept.mk (fun W => rxml_any nm W (by omega))
    have CL := Kept.mk (fun (W : World) (H : Re B b s st (false, r1) W) => look_e H)
    have hbk := blk_lk false r1
    have CB := Kept.mk (fun W => rblank_any (lk (false, r1)) W)
    rw [hbk] at CB
    cases hx : Ptr.isXml nm with
    | true =>
      rw [show Ppa.instrM p r st = .error r1 by unfold Ppa.instrM; rw [hn]; dsimp only; rw [if_pos hx]]
      rw [hx] at CX
      generalize lk (false, r1) = C at CL
      clear h hn hx hbk CB
      go_enter Tryz.func54, Tryz.ntmps54
      go_wp2_with (first | (go_at_call 88; refine (CN.out).mono ?_; rintro e w1 ⟨rfl, H1, hb1⟩; have c2 := H1.c2; have P1 := Kept.mk H1; have B1 := Kept.mk (HB0.out.trans hb1); clear H1 hb1 CN) | (go_at_call 50; refine (CL.out _ P1.out).mono ?_; rintro e w2 ⟨rfl, H2, hb2⟩; have P2 := Kept.mk H2; have B2 := Kept.mk (B1.out.trans hb2); clear H2 hb2 CL) | (go_at_call 89; refine (CX.out _).mono ?_; rintro e w9 ⟨rfl, rfl⟩) | (go_at_call 52; refine (no_e P2.out).mono ?_; rintro e w3 ⟨rfl, H3, hb3⟩; have P3 := Kept.mk H3; have B3 := Kept.mk (B2.out.trans hb3); clear H3 hb3))
      refine bodyPost_ret (results_none rfl _ _ _) rfl ?_
      exact ⟨rfl, endR_no P3.out, B3.out⟩
    | false =>
      rw [hx] at CX
      by_cases c63 : lk (false, r1) = 63
      · obtain ⟨u, rfl⟩ := lk_cons 63 (by decide) (by decide) 63 rfl c63
        have hI : Ppa.instrM p r st = (match Ppa.mustL [63, 62] (63 :: u) with | .ok r2 => .ok (r2, Ppa.add st (6, nm, [], p)) | .error r2 => .error r2) := by
          unfold Ppa.instrM
          rw [hn]
          dsimp only
          rw [if_neg (by simp [hx])]
          rfl
        have CM := Kept.mk (fun (W : World) (H : Re B b s st (false, 63 :: u) W) => must_e ⟨#[63, 62]⟩ (by decide) (by decide) H)
        rw [show (⟨#[63, 62]⟩ : ByteArray).data.toList = [63, 62] from rfl] at CM
        rw [c63] at CL
        cases hmu : Ppa.mustL [63, 62] (63 :: u) with
        | error r2 =>
          rw [hmu] at hI
          dsimp only at hI
          rw [mustB_is.2 r2 hmu] at CM
          rw [hI]
          clear h hn hx hbk CB hI hmu c63
          go_enter Tryz.func54, Tryz.ntmps54
          go_wp2_with (first | (go_at_call 88; refine (CN.out).mono ?_; rintro e w1 ⟨rfl, H1, hb1⟩; have c2 := H1.c2; have P1 := Kept.mk H1; have B1 := Kept.mk (HB0.out.trans hb1); clear H1 hb1 CN) | (go_at_call 50; refine (CL.out _ P1.out).mono ?_; rintro e w2 ⟨rfl, H2, hb2⟩; have P2 := Kept.mk H2; have B2 := Kept.mk (B1.out.trans hb2); clear H2 hb2 CL) | (go_at_call 89; refine (CX.out _).mono ?_; rintro e w9 ⟨rfl, rfl⟩) | (go_at_call 55; refine (CM.out _ P2.out).mono ?_; rintro e w4 ⟨rfl, H4, hb4⟩; have c4 := H4.c2; have P4 := Kept.mk H4; have B4 := Kept.mk (B2.out.trans hb4); clear H4 hb4 CM))
          go_end0
          exact ⟨rfl, endR_no P4.out, B4.out⟩
        | ok r2 =>
          rw [hmu] at hI
          dsimp only at hI
          rw [mustB_is.1 r2 hmu] at CM
          rw [hI]
          have CF := Kept.mk (fun (W : World) (H : Re B b s st (false, r2) W) => rflush_any p H (by omega) (by omega))
          have CA := Kept.mk (fun (W : World) (H : Re B b s (Ppa.flush st p) (false, r2) W) => radd_any 6 nm [] p H (by omega))
          have CD := Kept.mk (fun (W : World) => rsaid_any ⟨#[]⟩ W (by decide))
          unfold ndV at CA
          clear h hn hx hbk CB hI hmu c63
          go_enter Tryz.func54, Tryz.ntmps54
          go_wp2_with (first | (go_at_call 88; refine (CN.out).mono ?_; rintro e w1 ⟨rfl, H1, hb1⟩; have c2 := H1.c2; have P1 := Kept.mk H1; have B1 := Kept.mk (HB0.out.trans hb1); clear H1 hb1 CN) | (go_at_call 50; refine (CL.out _ P1.out).mono ?_; rintro e w2 ⟨rfl, H2, hb2⟩; have P2 := Kept.mk H2; have B2 := Kept.mk (B1.out.trans hb2); clear H2 hb2 CL) | (go_at_call 89; refine (CX.out _).mono ?_; rintro e w9 ⟨rfl, rfl⟩) | (go_at_call 55; refine (CM.out _ P2.out).mono ?_; rintro e w4 ⟨rfl, H4, hb4⟩; have c4 := H4.c2; have P4 := Kept.mk H4; have B4 := Kept.mk (B2.out.trans hb4); clear H4 hb4 CM) | (go_at_call 59; refine (CF.out _ P4.out).mono ?_; rintro e w5 ⟨rfl, H5, hb5⟩; have P5 := Kept.mk H5; have B5 := Kept.mk (B4.out.trans hb5); clear H5 hb5 CF) | (go_at_call 91; refine (CD.out _).mono ?_; rintro e w6 ⟨rfl, hb6⟩; have P6 := Kept.mk (P5.out.below hb6); have B6 := Kept.mk (B5.out.trans (hb6.mono P5.out.hB)); clear hb6 CD) | (go_at_call 47; refine (CA.out _ P6.out).mono ?_; rintro e w7 ⟨rfl, H7, hb7⟩; have P7 := Kept.mk H7; have B7 := Kept.mk (B6.out.trans hb7); clear H7 hb7 CA))
          go_end0
          exact ⟨rfl, endR_ok (by have h := P7.out; rw [add_is (by decide)] at h; exact h), B7.out⟩
      · have n63 : ¬ (lk (false, r1) : Int) = 63 := by omega
        cases hbl : blankH r1 with
        | false =>
          rw [hbl] at CB
          have hI : Ppa.instrM p r st = .error r1 := by
            unfold Ppa.instrM
            rw [hn]
            dsimp only
            rw [if_neg (by simp [hx])]
            cases r1 with
            | nil => rfl
            | cons x u =>
              dsimp only
              rw [if_neg (by rw [show Pch.blankC x = blankH (x :: u) from rfl, hbl]; decide), if_neg (by rintro rfl; exact c63 (lk_low 63 u (by decide)))]
          rw [hI]
          generalize lk (false, r1) = C at CL CB n63
          have q63 : ((C : Int) != 63) = true := by simpa using n63
          clear h hn hx hbk hI hbl c63
          go_enter Tryz.func54, Tryz.ntmps54
          go_wp2_with (first | (go_at_call 88; refine (CN.out).mono ?_; rintro e w1 ⟨rfl, H1, hb1⟩; have c2 := H1.c2; have P1 := Kept.mk H1; have B1 := Kept.mk (HB0.out.trans hb1); clear H1 hb1 CN) | (go_at_call 50; refine (CL.out _ P1.out).mono ?_; rintro e w2 ⟨rfl, H2, hb2⟩; have P2 := Kept.mk H2; have B2 := Kept.mk (B1.out.trans hb2); clear H2 hb2 CL) | (go_at_call 89; refine (CX.out _).mono ?_; rintro e w9 ⟨rfl, rfl⟩) | (go_at_call 48; refine (CB.out _).mono ?_; rintro e w9 ⟨rfl, rfl⟩) | (go_at_call 52; refine (no_e P2.out).mono ?_; rintro e w3 ⟨rfl, H3, hb3⟩; have P3 := Kept.mk H3; have B3 := Kept.mk (B2.out.trans hb3); clear H3 hb3))
          refine bodyPost_ret (results_none rfl _ _ _) rfl ?_
          exact ⟨rfl, endR_no P3.out, B3.out⟩
        | true =>
          rw [hbl] at CB
          have hI : Ppa.instrM p r st = (match Ppa.untilR [63, 62] (Ppa.blanksL r1) with | .ok (v, r2) => .ok (r2, Ppa.add st (6, nm, Ppa.said v, p)) | .error r2 => .error r2) := by
            unfold Ppa.instrM
            rw [hn]
            dsimp only
            rw [if_neg (by simp [hx])]
            cases r1 with
            | nil => cases hbl
            | cons x u =>
              dsimp only
              rw [if_pos (show Pch.blankC x = true from hbl)]
              cases Ppa.untilR [63, 62] (Ppa.blanksL (x :: u)) <;> rfl
          have CS := Kept.mk (fun (W : World) (H : Re B b s st (false, r1) W) => blanks_e H)
          rw [blanksB_false] at CS
          have hbll := (Ppa.blanksL_suf r1).length_le
          have CU := Kept.mk (fun (W : World) (H : Re B b s st (false, Ppa.blanksL r1) W) => until_e ⟨#[63, 62]⟩ 63 [62] rfl (by decide) (by decide) H)
          rw [show (⟨#[63, 62]⟩ : ByteArray).data.toList = [63, 62] from rfl] at CU
          generalize lk (false, r1) = C at CL CB n63
          have q63 : ((C : Int) != 63) = true := by simpa using n63
          have q63' : ((C : Int) == 63) = false := by simpa using n63
          cases hun : Ppa.untilR [63, 62] (Ppa.blanksL r1) with
          | error r2 =>
            rw [hun] at hI
            dsimp only at hI
            rw [untilS_is.2 r2 hun] at CU
            rw [hI]
            clear h hn hx hbk hI hbl c63 hun
            go_enter Tryz.func54, Tryz.ntmps54
            go_wp2_with (first | (go_at_call 88; refine (CN.out).mono ?_; rintro e w1 ⟨rfl, H1, hb1⟩; have c2 := H1.c2; have P1 := Kept.mk H1; have B1 := Kept.mk (HB0.out.trans hb1); clear H1 hb1 CN) | (go_at_call 50; refine (CL.out _ P1.out).mono ?_; rintro e w2 ⟨rfl, H2, hb2⟩; have P2 := Kept.mk H2; have B2 := Kept.mk (B1.out.trans hb2); clear H2 hb2 CL) | (go_at_call 89; refine (CX.out _).mono ?_; rintro e w9 ⟨rfl, rfl⟩) | (go_at_call 48; refine (CB.out _).mono ?_; rintro e w9 ⟨rfl, rfl⟩) | (go_at_call 86; refine (CS.out _ P2.out).mono ?_; rintro e w3 ⟨rfl, H3, hb3⟩; have P3 := Kept.mk H3; have B3 := Kept.mk (B2.out.trans hb3); clear H3 hb3 CS) | (go_at_call 90; refine (CU.out _ P3.out).mono ?_; rintro e w4 ⟨rfl, H4, hb4⟩; have c4 := H4.c2; have P4 := Kept.mk H4; have B4 := Kept.mk (B3.out.trans hb4); clear H4 hb4 CU))
            go_end0
            exact ⟨rfl, endR_no P4.out, B4.out⟩
          | ok q2 =>
            obtain ⟨v, r2⟩ := q2
            rw [hun] at hI
            dsimp only at hI
            rw [untilS_is.1 v r2 hun] at CU
            rw [hI]
            have hvl : v.length ≤ (Ppa.blanksL r1).length := by
              unfold Ppa.untilR at hun
              cases hu : Ppa.untilM [63, 62] (Ppa.blanksL r1) with
              | none => rw [hu] at hun; cases hun
              | some q =>
                rw [hu] at hun
                injection hun with hun
                subst hun
                have := congrArg List.length (Ppa.untilM_app _ _ _ _ hu)
                rw [List.length_append, List.length_append] at this
                omega
            have CF := Kept.mk (fun (W : World) (H : Re B b s st (false, r2) W) => rflush_any p H (by omega) (by omega))
            have CA := Kept.mk (fun (W : World) (H : Re B b s (Ppa.flush st p) (false, r2) W) => radd_any 6 nm (Ppa.said v) p H (by omega))
            have CD := Kept.mk (fun (W : World) => rsaid_any ⟨v.toArray⟩ W (by rw [Lib.size_mk]; omega))
            unfold ndV at CA
            clear h hn hx hbk hI hbl c63 hun
            go_enter Tryz.func54, Tryz.ntmps54
            go_wp2_with (first | (go_at_call 88; refine (CN.out).mono ?_; rintro e w1 ⟨rfl, H1, hb1⟩; have c2 := H1.c2; have P1 := Kept.mk H1; have B1 := Kept.mk (HB0.out.trans hb1); clear H1 hb1 CN) | (go_at_call 50; refine (CL.out _ P1.out).mono ?_; rintro e w2 ⟨rfl, H2, hb2⟩; have P2 := Kept.mk H2; have B2 := Kept.mk (B1.out.trans hb2); clear H2 hb2 CL) | (go_at_call 89; refine (CX.out _).mono ?_; rintro e w9 ⟨rfl, rfl⟩) | (go_at_call 48; refine (CB.out _).mono ?_; rintro e w9 ⟨rfl, rfl⟩) | (go_at_call 86; refine (CS.out _ P2.out).mono ?_; rintro e w3 ⟨rfl, H3, hb3⟩; have P3 := Kept.mk H3; have B3 := Kept.mk (B2.out.trans hb3); clear H3 hb3 CS) | (go_at_call 90; refine (CU.out _ P3.out).mono ?_; rintro e w4 ⟨rfl, H4, hb4⟩; have c4 := H4.c2; have P4 := Kept.mk H4; have B4 := Kept.mk (B3.out.trans hb4); clear H4 hb4 CU) | (go_at_call 59; refine (CF.out _ P4.out).mono ?_; rintro e w5 ⟨rfl, H5, hb5⟩; have P5 := Kept.mk H5; have B5 := Kept.mk (B4.out.trans hb5); clear H5 hb5 CF) | (go_at_call 91; refine (CD.out _).mono ?_; rintro e w6 ⟨rfl, hb6⟩; have P6 := Kept.mk (P5.out.below hb6); have B6 := Kept.mk (B5.out.trans (hb6.mono P5.out.hB)); clear hb6 CD) | (go_at_call 47; refine (CA.out _ P6.out).mono ?_; rintro e w7 ⟨rfl, H7, hb7⟩; have P7 := Kept.mk H7; have B7 := Kept.mk (B6.out.trans hb7); clear H7 hb7 CA))
            go_end0
            exact ⟨rfl, endR_ok (by have h := P7.out; rw [add_is (by decide)] at h; exact h), B7.out⟩
end
end Go.Proofs.YtlemdhfekdiaeaaGreatDoor.Wrd
