/- Joined texts: ParseT, EmbR, ParseG, ParseH, ParseI, ParseM, ParseN, ParseO, ParseJ, ParseL. -/
import Derived.Test.YtemfmidhekdekaaGreatDoorPsB
import Derived.Lib.MapLaws
import Derived.Laws.RangeAny
import Derived.Lib.TrimAscii
import Derived.Test.YtemfmidhekdekaaGreatDoorPsA
import Derived.Test.YtemfmidhekdekaaGreatDoorShelfParse
import Derived.Shelf.Utf8.AppendRunePlain
import Derived.Test.YtemfmidhekdekaaGreatDoorPsC
import Derived.Deep.RegionHeld3
import Derived.Deep.RegionLaw
namespace Go.Proofs.YtemfmidhekdekaaGreatDoor.Ppa
open Go Go.Lib Go.Proofs.YtemfmidhekdekaaGreatDoor.Ptr

theorem first_high (c : UInt8) (t : Bs) (h : 128 ≤ c.toNat) : 128 ≤ (decodeL (c :: t)).1 := by
  have h1 := (decode_high ⟨(c :: t).toArray⟩ 0 (by simp [ByteArray.size]) h).1
  rw [← decodeL_drop] at h1
  exact h1
theorem encZ_high (r : Int) (h : 128 ≤ r) : ∀ x ∈ encodeRuneZ r, 128 ≤ x ∧ x < 256 := by
  intro x hx
  refine ⟨?_, (encodeRuneZ_byte r x hx).2⟩
  by_cases h1 : r ≤ 2047
  · rw [encodeRuneZ_two h h1] at hx
    simp only [List.mem_cons, List.not_mem_nil, or_false] at hx
    omega
  · by_cases h2 : (2048 ≤ r ∧ r < 55296) ∨ (57343 < r ∧ r ≤ 65535)
    · rw [encodeRuneZ_three h2] at hx
      simp only [List.mem_cons, List.not_mem_nil, or_false] at hx
      omega
    · by_cases h3 : 65536 ≤ r ∧ r ≤ 1114111
      · rw [encodeRuneZ_four h3.1 h3.2] at hx
        simp only [List.mem_cons, List.not_mem_nil, or_false] at hx
        omega
      · rw [encodeRuneZ_bad (by omega)] at hx
        simp only [List.mem_cons, List.not_mem_nil, or_false] at hx
        omega
theorem texts_step {r : Bs} (hne : r ≠ []) (h : Pch.textsL r = true) : Pch.okR (decodeL r) = true ∧ Pch.charB (decodeL r).1 = true ∧ Pch.textsL (skip r) = true := by
  unfold Pch.textsL at h
  rw [Pch.runes_step r hne, List.all_cons, Bool.and_eq_true, Bool.and_eq_true] at h
  exact ⟨h.1.1, h.1.2, h.2⟩
theorem texts_low {x : UInt8} {t : Bs} (hx : x.toNat < 128) (h : Pch.textsL (x :: t) = true) : Pch.textsL t = true := by
  have h1 := (texts_step (by simp) h).2.2
  unfold skip at h1
  rw [decodeL_ascii x t hx] at h1
  exact h1
theorem char_bytes {r : Bs} (hne : r ≠ []) (h : Pch.textsL r = true) : encodeRune ((decodeL r).1 : Int) = r.take (decodeL r).2 := by
  have h1 := (texts_step hne h).1
  refine encode_decode r hne ?_
  intro e
  unfold Pch.okR at h1
  rw [decide_eq_true e] at h1
  cases h1
theorem char_high {x : UInt8} {t : Bs} (hx : 128 ≤ x.toNat) (h : Pch.textsL (x :: t) = true) : ∀ y ∈ (x :: t).take (decodeL (x :: t)).2, 128 ≤ y.toNat := by
  rw [← char_bytes (by simp) h]
  intro y hy
  unfold encodeRune at hy
  obtain ⟨z, hz, rfl⟩ := List.mem_map.1 hy
  have h1 := encZ_high _ (by have := first_high x t hx; omega) z hz
  simp
  omega
theorem valF_high (q : UInt8) (hq : q.toNat < 128) (f : Nat) (acc : Bs) (x : UInt8) (t : Bs) (hx : 128 ≤ x.toNat) : valF q (f + 1) acc (x :: t) = valF q f (acc ++ [x]) t := by
  have e0 : ¬ x = q := fun e => by subst e; omega
  have e1 : ¬ x = 60 := fun e => by subst e; revert hx; decide
  have e2 : ¬ x = 38 := fun e => by subst e; revert hx; decide
  have e3 : ¬ x = 13 := fun e => by subst e; revert hx; decide
  have e4 : ¬ Pch.blankC x = true := fun e => by
    simp only [Pch.blankC, Bool.or_eq_true, beq_iff_eq] at e
    rcases e with ((rfl | rfl) | rfl) | rfl <;> revert hx <;> decide
  rw [valF, if_neg e0, if_neg e1, if_neg e2, if_neg e3, if_neg e4]
theorem valF_copy (q : UInt8) (hq : q.toNat < 128) : ∀ (u : Bs) (f : Nat) (acc t : Bs), (∀ y ∈ u, 128 ≤ y.toNat) → valF q (f + u.length) acc (u ++ t) = valF q f (acc ++ u) t
  | [], f, acc, t, _ => by simp
  | x :: u, f, acc, t, h => by
    rw [List.length_cons, ← Nat.add_assoc, List.cons_append, valF_high q hq _ acc x (u ++ t) (h x (by simp)), valF_copy q hq u f (acc ++ [x]) t (fun y hy => h y (by simp [hy]))]
    simp
theorem contF_high (N f : Nat) (p : Int) (d run : Nat) (x : UInt8) (t : Bs) (s : St) (hx : 128 ≤ x.toNat) : contF N (f + 1) p d run (x :: t) s = contF N f p d 0 t { s with text := s.text ++ [x] } := by
  have e0 : ¬ (x = 62 ∧ 2 ≤ run) := fun e => by obtain ⟨rfl, _⟩ := e; revert hx; decide
  have e1 : ¬ x = 60 := fun e => by subst e; revert hx; decide
  have e2 : ¬ x = 38 := fun e => by subst e; revert hx; decide
  have e3 : ¬ x = 13 := fun e => by subst e; revert hx; decide
  have e4 : ¬ x = 93 := fun e => by subst e; revert hx; decide
  rw [contF]
  simp only [if_neg e0, if_neg e1, if_neg e2, if_neg e3, if_neg e4]
theorem contF_copy (N : Nat) : ∀ (u : Bs) (f : Nat) (p : Int) (d run : Nat) (t : Bs) (s : St), u ≠ [] → (∀ y ∈ u, 128 ≤ y.toNat) → contF N (f + u.length) p d run (u ++ t) s = contF N f p d 0 t { s with text := s.text ++ u }
  | [], _, _, _, _, _, _, hne, _ => absurd rfl hne
  | [x], f, p, d, run, t, s, _, h => by
    exact contF_high N f p d run x t s (h x (by simp))
  | x :: y :: u, f, p, d, run, t, s, _, h => by
    rw [List.length_cons, ← Nat.add_assoc, List.cons_append, contF_high N _ p d run x _ s (h x (by simp)), contF_copy N (y :: u) f p d 0 t _ (by simp) (fun z hz => h z (by simp at hz ⊢; exact .inr hz))]
    simp
/-- in a right text a small byte stands at a character's place -/
theorem texts_at : ∀ (n : Nat) (r : Bs) (i : Nat) (x : UInt8) (t : Bs), r.length ≤ n → Pch.textsL r = true → r.drop i = x :: t → x.toNat < 128 → Pch.textsL (x :: t) = true
  | 0, r, i, x, t, hn, _, hd, _ => by
    have : r = [] := List.eq_nil_of_length_eq_zero (by omega)
    subst this
    simp at hd
  | n + 1, r, i, x, t, hn, h, hd, hx => by
    by_cases h0 : i = 0
    · subst h0
      rw [List.drop_zero] at hd
      rw [← hd]
      exact h
    · have hne : r ≠ [] := by intro e; subst e; simp at hd
      have hw := decodeL_width r
      have hle := decodeL_le r hne
      by_cases hk : (decodeL r).2 ≤ i
      · refine texts_at n (skip r) (i - (decodeL r).2) x t (by unfold skip; rw [List.length_drop]; omega) (texts_step hne h).2.2 ?_ hx
        unfold skip
        rw [List.drop_drop, show (decodeL r).2 + (i - (decodeL r).2) = i by omega]
        exact hd
      · exfalso
        cases r with
        | nil => exact hne rfl
        | cons y u =>
          rcases Nat.lt_or_ge y.toNat 128 with hy | hy
          · rw [decodeL_ascii y u hy] at hk
            simp at hk
            omega
          · have hm : x ∈ (y :: u).take (decodeL (y :: u)).2 := by
              have hi : i < (y :: u).length := by omega
              have hg := List.drop_eq_getElem_cons hi
              rw [hd] at hg
              injection hg with hg _
              rw [hg]
              exact List.mem_take_iff_getElem.2 ⟨i, by omega, rfl⟩
            have := char_high hy h x hm
            omega
end Go.Proofs.YtemfmidhekdekaaGreatDoor.Ppa
namespace Go.Proofs.YtemfmidhekdekaaGreatDoor.Emk
open Go Go.RowKit Go.Proofs.YtemfmidhekdekaaGreatDoor.Kb

set_option maxRecDepth 100000 in
set_option maxHeartbeats 2000000 in
/-- WriteRune on a builder within a struct -/
theorem rune_any {T : TypeId} {pre post : List Value} {B b : Nat} {acc : List UInt8} {w : World} (r : Int) (hr0 : -2147483648 ≤ r) (hr1 : r ≤ 2147483647) (hT : T ≠ 5) (hB : B ≤ b) (h : Is T pre post B b acc w) (hlies : liesAt Tryz.prog Tryz.prog.depth T ((pre.length + 2 + post.length) / Tryz.prog.cellsOf T) pre.length 52 1 = true) (hl : acc.length ≤ 1000000000000) :
    Calls Tryz.prog 70 #[.pointer (some ⟨b, pre.length, none⟩), .int .i32 r] w fun e w' => (∃ n : Int, e = .returned (.tuple #[.int .i64 n, .nilIface])) ∧ Is T pre post B b (acc ++ Lib.encodeRune r) w' ∧ Below B w w' ∧ Lib.OthersKept 5 (some b) w w' := by
  have hlt := h.lt
  have CC := Kept.mk (check_any hB h hlies)
  have hle := Lib.runeCells_le r
  have hlen := Lib.runeCells_length r
  have hcells := Lib.byteCells_encodeRune r
  generalize hN : (Lib.runeCells r).length = N at hle hlen
  have HN := Kept.mk hN
  have HC := Kept.mk hcells
  have HLN := Kept.mk hlen
  clear h hlies hN hcells hlen
  go_enter Tryz.func70, Tryz.ntmps70
  go_wp2_with (go_at_call 73; refine CC.out.mono ?_)
  rintro e w1 ⟨rfl, ⟨v, hbk, hown, hne⟩, hb1, hk1⟩
  obtain ⟨A1, c1', rfl, _⟩ := Flt.own_slice hown
  have HK1 := Kept.mk hk1
  have c1 : w1.cell? ⟨b, pre.length + 1, none⟩ = some (.slice A1 acc.length c1') := by rw [cell_of_row w1 b _ _ _ _ hbk]; simp
  have HB1 := Kept.mk hb1
  have HBK := Kept.mk hbk
  have HOWN := Kept.mk hown
  have hlt1 : b < w1.heap.size := (Array.getElem?_eq_some_iff.1 hbk).1
  have hz1' : B ≤ w1.heap.size := by omega
  have HNE := Kept.mk hne
  have i0 : (0 : Int) ≤ (acc.length : Int) := by omega
  have i1 : (acc.length : Int) ≤ 1000000000000 := by omega
  have i2 : (0 : Int) ≤ (N : Int) := by omega
  have i3 : (N : Int) ≤ 4 := by omega
  clear hb1 hbk hown hk1 hne
  go_wp2_with (go_at_call 96; refine (Any.utf8_AppendRune_plain Tryz.lays242 infoU B _ acc.length (Lib.byteCells acc) r hr0 hr1 w1 HOWN.out (by omega) hz1').mono ?_; rintro e w2 ⟨v2, rfl, hown2, o, hgrow2⟩; rw [HN.out] at hown2; obtain ⟨A2, e2, rfl, _⟩ := Flt.own_slice hown2; have hb2 := (hgrow2.block b (by simp; omega) (fun e => HNE.out e.symm)).trans ((Lib.alloc_old w1 _ b hlt1).trans HBK.out); have hne2 := own_block_ne hb2 hT hown2; have f2 : w2.frozen? ⟨b, pre.length + 1, none⟩ = false := Joins.unfrozen_of_block hb2 _; have c2 : w2.cell? ⟨b, pre.length + 1, none⟩ = some (.slice A1 acc.length c1') := (by rw [cell_of_row w2 b _ _ _ _ hb2]; simp); have B2 := Kept.mk (Below.grown (HB1.out.alloc hz1' _) hgrow2 (by simp; omega) (fun k hk => (HOWN.out.lt k hk).1)); have H2 := Kept.mk hb2; have K2 := Kept.mk ((HK1.out.alloc _).grown hgrow2 (Lib.ownsRowF_kind (World.ownsRowF_of (HOWN.out.alloc _)))); have O2 := Kept.mk hown2; clear hb2 hown2 hgrow2)
  go_ret2
  have hO : w2.ownsRow B 5 1 (.slice A2 (acc.length + N) e2) (acc ++ Lib.encodeRune r).length (Lib.byteCells (acc ++ Lib.encodeRune r)) := by
    have h := O2.out
    rw [Lib.byteCells_append, List.length_append, HC.out, ← HLN.out]
    exact h
  exact ⟨⟨_, rfl⟩, .inr (put_second H2.out hO hne2), B2.out.setCell (p := ⟨b, pre.length + 1, none⟩) hB _, K2.out.setCell ⟨b, pre.length + 1, none⟩ rfl _⟩
set_option maxRecDepth 100000 in
/-- Len of a builder within a struct -/
theorem len_any {T : TypeId} {pre post : List Value} {B b : Nat} {acc : List UInt8} {w : World} (h : Is T pre post B b acc w) :
    Calls Tryz.prog 94 #[.pointer (some ⟨b, pre.length, none⟩)] w fun e w' => e = .returned (.int .i64 acc.length) ∧ w' = w := by
  obtain ⟨p, _, v, hbk, hown, _⟩ := h.any
  obtain ⟨A1, c1', rfl, _⟩ := Flt.own_slice hown
  have c1 : w.cell? ⟨b, pre.length + 1, none⟩ = some (.slice A1 acc.length c1') := by rw [cell_of_row w b _ _ _ _ hbk]; simp
  clear h hbk hown
  go_enter Tryz.func94, Tryz.ntmps94
  go_wp2
  go_ret
  exact ⟨rfl, rfl⟩
end Go.Proofs.YtemfmidhekdekaaGreatDoor.Emk
namespace Go.Proofs.YtemfmidhekdekaaGreatDoor.Wps
open Go Go.RowKit Go.Proofs.YtemfmidhekdekaaGreatDoor.Kb Go.Proofs.YtemfmidhekdekaaGreatDoor.Wch Go.Proofs.YtemfmidhekdekaaGreatDoor.Emk

/-- what turns nothing below B0 leaves a parser that lies below B0 -/
theorem Pa.low {B B0 b : Nat} {s : ByteArray} {x : List Value} {r : Ppa.Bs} {w w' : World} (h : Pa B b s x r w) (hb : Below B0 w w') (h1 : b < B0) (h2 : B ≤ B0) : Pa B b s x r w' :=
  ⟨(hb.block b h1).trans h.row, h.suf, h.ev.below (hb.mono h2), h.le, h.small⟩
theorem grown_low {w w1 w2 : World} {b : Nat} (h : w.grownBy w1 (some b)) (hb : Below w.heap.size w1 w2) : w.grownBy w2 (some b) :=
  ⟨hb.os.trans h.os, hb.tape.trans h.tape, hb.output.trans h.output, Nat.le_trans h.size hb.size, fun j hj hne => (hb.block j hj).trans (h.block j hj hne)⟩
/-- a builder keeps where only another block below it is turned -/
theorem Is_grown {T : TypeId} {pre post : List Value} {B c b : Nat} {acc : List UInt8} {w w' : World} (h : Is T pre post B c acc w) (hg : w.grownBy w' (some b)) (h1 : b < B) (h2 : B ≤ c) : Is T pre post B c acc w' := by
  have key : ∀ p, At T pre post B c p acc w → At T pre post B c p acc w' := by
    intro p hA
    have hl := hA.lt
    obtain ⟨v, hb, ho, hne⟩ := hA
    refine ⟨v, (hg.block c hl (by intro e; injection e with e; omega)).trans hb, ho.kept hg ?_, hne⟩
    cases hv : v.ownBlock with
    | none => exact .inl rfl
    | some g =>
      right
      intro e
      injection e with e
      have := (ho.lt g hv).1
      omega
  exact h.imp (key _) (key _)
theorem mustL_len : ∀ (a r t : Ppa.Bs), Ppa.mustL a r = .ok t → t.length ≤ r.length
  | [], r, t, h => by injection h with h; rw [h]; exact Nat.le_refl _
  | c :: a, [], t, h => by cases h
  | c :: a, x :: u, t, h => by
    unfold Ppa.mustL at h
    split at h
    · have := mustL_len a u t h
      simp only [List.length_cons]
      omega
    · cases h
theorem numG_ok {hex : Bool} : ∀ (r : Ppa.Bs) (n : Nat) (any : Bool) (m : Nat) (t : Ppa.Bs), Ppa.numG hex n any r = .ok (m, t) → t.length ≤ r.length ∧ (n ≤ 1114111 → m ≤ 1114111)
  | [], n, any, m, t, h => by rw [Ppa.numG] at h; cases h
  | y :: u, n, any, m, t, h => by
    cases hd : digO hex (y :: u) with
    | some d =>
      rw [numG_more hd] at h
      generalize n * (if hex = true then 16 else 10) + d = z at h
      by_cases hb : 1114111 < z
      · rw [if_pos hb] at h
        cases h
      · rw [if_neg hb, List.tail_cons] at h
        have := numG_ok u _ true m t h
        simp only [List.length_cons]
        exact ⟨by omega, fun _ => this.2 (by omega)⟩
    | none =>
      rw [numG_end hd] at h
      split at h
      · cases h
      · injection h with h
        injection h with h1 h2
        subst h1 h2
        simp
theorem isM_ok {a r t : Ppa.Bs} {n m : Nat} (h : isM a n r = .ok (m, t)) : t.length ≤ r.length ∧ m = n := by
  unfold isM at h
  cases hm : Ppa.mustL a r with
  | ok u =>
    rw [hm] at h
    injection h with h
    injection h with h1 h2
    subst h1 h2
    exact ⟨mustL_len a r u hm, rfl⟩
  | error u =>
    rw [hm] at h
    cases h
theorem refM_ok {r t : Ppa.Bs} {n : Nat} (h : Ppa.refM r = .ok (n, t)) : t.length ≤ r.length ∧ n ≤ 1114111 := by
  by_cases h1 : r.head? = some 35
  · obtain ⟨u, rfl⟩ := head_cons h1
    rw [refM_num] at h
    by_cases hx : u.head? = some 120
    · obtain ⟨v, rfl⟩ := head_cons hx
      have := numG_ok v 0 false n t h
      simp only [List.length_cons]
      exact ⟨by omega, this.2 (by omega)⟩
    · have e : Ppa.numM u = Ppa.numG false 0 false u := by
        unfold Ppa.numM
        split
        · exact absurd rfl hx
        · rfl
      rw [e] at h
      have := numG_ok u 0 false n t h
      simp only [List.length_cons]
      exact ⟨by omega, this.2 (by omega)⟩
  · by_cases h2 : r.head? = some 108
    · obtain ⟨u, rfl⟩ := head_cons h2
      rw [refM_l] at h
      have := isM_ok h
      exact ⟨this.1, by omega⟩
    · by_cases h3 : r.head? = some 103
      · obtain ⟨u, rfl⟩ := head_cons h3
        rw [refM_g] at h
        have := isM_ok h
        exact ⟨this.1, by omega⟩
      · by_cases h4 : r.head? = some 113
        · obtain ⟨u, rfl⟩ := head_cons h4
          rw [refM_q] at h
          have := isM_ok h
          exact ⟨this.1, by omega⟩
        · by_cases h5 : r.head? = some 97
          · obtain ⟨u, rfl⟩ := head_cons h5
            by_cases h6 : u.head? = some 109
            · obtain ⟨v, rfl⟩ := head_cons h6
              rw [refM_am] at h
              have := isM_ok h
              simp only [List.length_cons] at this ⊢
              exact ⟨by omega, by omega⟩
            · rw [refM_a h6] at h
              have := isM_ok h
              simp only [List.length_cons]
              exact ⟨by omega, by omega⟩
          · rw [refM_none h1 h2 h3 h4 h5] at h
            cases h
theorem mustL_texts : ∀ (a r t : Ppa.Bs), (∀ c ∈ a, c.toNat < 128) → Pch.textsL r = true → Ppa.mustL a r = .ok t → Pch.textsL t = true
  | [], r, t, _, h, hm => by injection hm with hm; rw [← hm]; exact h
  | c :: a, [], t, _, _, hm => by cases hm
  | c :: a, x :: u, t, ha, h, hm => by
    unfold Ppa.mustL at hm
    split at hm
    · rename_i e
      exact mustL_texts a u t (fun z hz => ha z (by simp [hz])) (Ppa.texts_low (by rw [e]; exact ha c (by simp)) h) hm
    · cases hm
theorem digO_low {hex : Bool} {d : Nat} {y : UInt8} {u : Ppa.Bs} (h : digO hex (y :: u) = some d) : y.toNat < 128 := by
  rcases Nat.lt_or_ge y.toNat 128 with hy | hy
  · exact hy
  · have h1 := digI_peek hex (y :: u)
    rw [h] at h1
    have h2 := peek_high y u hy
    have h3 : digI hex (Ppa.peek (y :: u)) = -1 := by
      unfold digI
      rw [if_neg (by omega), if_neg (by omega), if_neg (by omega)]
    rw [h3] at h1
    have h4 : (-1 : Int) = (d : Int) := h1
    omega
theorem numG_texts {hex : Bool} : ∀ (r : Ppa.Bs) (n : Nat) (any : Bool) (m : Nat) (t : Ppa.Bs), Pch.textsL r = true → Ppa.numG hex n any r = .ok (m, t) → Pch.textsL t = true
  | [], n, any, m, t, _, h => by rw [Ppa.numG] at h; cases h
  | y :: u, n, any, m, t, ht, h => by
    cases hd : digO hex (y :: u) with
    | some d =>
      have hlow := digO_low hd
      rw [numG_more hd] at h
      generalize n * (if hex = true then 16 else 10) + d = z at h
      by_cases hb : 1114111 < z
      · rw [if_pos hb] at h
        cases h
      · rw [if_neg hb, List.tail_cons] at h
        exact numG_texts u _ true m t (Ppa.texts_low hlow ht) h
    | none =>
      rw [numG_end hd] at h
      by_cases hc : any = false ∨ Ppa.peek (y :: u) ≠ 59 ∨ Pch.charB n = false
      · rw [if_pos hc] at h
        cases h
      · rw [if_neg hc] at h
        have hp : Ppa.peek (y :: u) = 59 := by
          apply Classical.byContradiction
          intro e
          exact hc (.inr (.inl e))
        have hy := (peek_is 59 (by decide) (y :: u)).1 hp
        injection hy with hy
        injection h with h
        injection h with h1 h2
        rw [← h2]
        exact Ppa.texts_low (by rw [hy]; decide) ht
theorem isM_texts {a r t : Ppa.Bs} {n m : Nat} (ha : ∀ c ∈ a, c.toNat < 128) (hr : Pch.textsL r = true) (h : isM a n r = .ok (m, t)) : Pch.textsL t = true := by
  unfold isM at h
  cases hm : Ppa.mustL a r with
  | ok u =>
    rw [hm] at h
    injection h with h
    injection h with h1 h2
    subst h1 h2
    exact mustL_texts a r u ha hr hm
  | error u =>
    rw [hm] at h
    cases h
theorem refM_texts {r t : Ppa.Bs} {n : Nat} (hr : Pch.textsL r = true) (h : Ppa.refM r = .ok (n, t)) : Pch.textsL t = true := by
  by_cases h1 : r.head? = some 35
  · obtain ⟨u, rfl⟩ := head_cons h1
    have hu := Ppa.texts_low (by decide) hr
    rw [refM_num] at h
    by_cases hx : u.head? = some 120
    · obtain ⟨v, rfl⟩ := head_cons hx
      exact numG_texts v 0 false n t (Ppa.texts_low (by decide) hu) h
    · have e : Ppa.numM u = Ppa.numG false 0 false u := by
        unfold Ppa.numM
        split
        · exact absurd rfl hx
        · rfl
      rw [e] at h
      exact numG_texts u 0 false n t hu h
  · by_cases h2 : r.head? = some 108
    · obtain ⟨u, rfl⟩ := head_cons h2
      rw [refM_l] at h
      exact isM_texts (by decide) hr h
    · by_cases h3 : r.head? = some 103
      · obtain ⟨u, rfl⟩ := head_cons h3
        rw [refM_g] at h
        exact isM_texts (by decide) hr h
      · by_cases h4 : r.head? = some 113
        · obtain ⟨u, rfl⟩ := head_cons h4
          rw [refM_q] at h
          exact isM_texts (by decide) hr h
        · by_cases h5 : r.head? = some 97
          · obtain ⟨u, rfl⟩ := head_cons h5
            have hu := Ppa.texts_low (by decide) hr
            by_cases h6 : u.head? = some 109
            · obtain ⟨v, rfl⟩ := head_cons h6
              rw [refM_am] at h
              exact isM_texts (by decide) hu h
            · rw [refM_a h6] at h
              exact isM_texts (by decide) hu h
          · rw [refM_none h1 h2 h3 h4 h5] at h
            cases h
theorem nlL_len (t : Ppa.Bs) : (Ppa.nlL t).length ≤ t.length := by
  unfold Ppa.nlL
  split
  · simp
  · exact Nat.le_refl _
theorem valF_some (q : UInt8) : ∀ (f : Nat) (acc r : Ppa.Bs), r.length < f → ∃ o, Ppa.valF q f acc r = some o
  | 0, _, _, h => by omega
  | f + 1, acc, [], _ => ⟨_, by rw [Ppa.valF]⟩
  | f + 1, acc, x :: t, h => by
    simp only [List.length_cons] at h
    rw [Ppa.valF]
    split
    · exact ⟨_, rfl⟩
    · split
      · exact ⟨_, rfl⟩
      · split
        · cases hr : Ppa.refM t with
          | ok p =>
            obtain ⟨n, t'⟩ := p
            have := (refM_ok hr).1
            exact valF_some q f _ t' (by omega)
          | error t' => exact ⟨_, rfl⟩
        · split
          · have := nlL_len t
            exact valF_some q f _ _ (by omega)
          · split
            · exact valF_some q f _ t (by omega)
            · exact valF_some q f _ t (by omega)
end Go.Proofs.YtemfmidhekdekaaGreatDoor.Wps
namespace Go.Proofs.YtemfmidhekdekaaGreatDoor.Wps
open Go Go.RowKit Go.Proofs.YtemfmidhekdekaaGreatDoor.Kb Go.Proofs.YtemfmidhekdekaaGreatDoor.Wch Go.Proofs.YtemfmidhekdekaaGreatDoor.Emk

theorem lies_bld : liesAt Tryz.prog Tryz.prog.depth 52 ((([] : List Value).length + 2 + ([] : List Value).length) / Tryz.prog.cellsOf 52) ([] : List Value).length 52 1 = true := by kernel_rfl
theorem bld_ne : 52 ≠ 5 := by decide
theorem bld_fresh (w : World) : Is 52 [] [] w.heap.size w.heap.size [] (w.alloc (.cells #[.pointer none, .slice none 0 0] 52)) :=
  .inl ⟨.slice none 0 0, heap_alloc_new w _, World.ownsRow_nil _ _ _ _, by simp [Value.ownBlock]⟩
/-- where the loop of value stands -/
structure Vs (B b W : Nat) (s : ByteArray) (x : List Value) (w0 : World) (q : UInt8) (o : Except Ppa.Bs (Ppa.Bs × Ppa.Bs)) (L g : Nat) (acc r : Ppa.Bs) (w : World) : Prop where
  pa : Pa B b s x r w
  bld : Is 52 [] [] W W acc w
  grown : w0.grownBy w (some b)
  val : Ppa.valF q g acc r = some o
  fuel : r.length < g
  tx : Pch.textsL r = true
  room : acc.length + 4 * r.length ≤ L
theorem Vs.below {B b W : Nat} {s : ByteArray} {x : List Value} {w0 : World} {q : UInt8} {o : Except Ppa.Bs (Ppa.Bs × Ppa.Bs)} {L g : Nat} {acc r : Ppa.Bs} {w w' : World} (h : Vs B b W s x w0 q o L g acc r w) (hb : Below w.heap.size w w') : Vs B b W s x w0 q o L g acc r w' :=
  ⟨h.pa.below hb, h.bld.below hb, h.grown.trans (grown_of_below hb _), h.val, h.fuel, h.tx, h.room⟩
set_option maxRecDepth 100000 in
set_option maxHeartbeats 2000000 in
theorem value_quot {B b : Nat} {s : ByteArray} {x : List Value} {t : Ppa.Bs} {w : World} (h : Pa B b s x (34 :: t) w) (ht : Pch.textsL t = true) :
    Calls Tryz.prog 115 #[.pointer (some ⟨b, 0, none⟩)] w fun e w' => WaysV B b s x w strV (Ppa.valM (34 :: t)) e w' := by
  obtain ⟨o, ho⟩ := valF_some 34 (t.length + 1) [] t (by omega)
  have hM : Ppa.valM (34 :: t) = o := by
    unfold Ppa.valM
    simp [ho]
  rw [hM]
  have HO := Kept.mk ho
  have HT := Kept.mk ht
  have HQ : Kept (Ppa.peek (34 :: t) = 34) := ⟨(peek_is 34 (by decide) _).2 rfl⟩
  have hblt := h.row.lt
  have hBw : B ≤ w.heap.size := h.ev.le
  clear hM ho ht
  go_enter Tryz.func115, Tryz.ntmps115
  go_wp2_with (go_at_call 67; refine (peek_r h).mono ?_; rintro e w1 ⟨rfl, hb1⟩; rw [HQ.out]; have hz1 := hb1.size; have H1 := h.below hb1; have G1 := Kept.mk (grown_of_below hb1 (some b)); clear hb1; have hs9 := H1.small; obtain ⟨k, hk, c1⟩ := H1.cell; have f1 := H1.row.unf 1; have k0 : (0 : Int) ≤ (k : Int) := (by omega); have k1 : (k : Int) ≤ 65536 := (by omega); have HP3 : Pa B b s x t (w1.setCell ⟨b, 1, none⟩ (.int .i64 ((k : Int) + 1))) := H1.put ((List.suffix_cons _ _).trans H1.suf) (by simp at hk; omega); have G3 := Kept.mk (grown_set G1.out 1 (.int .i64 ((k : Int) + 1))))
  go_loopg [5] (t.length + 1) (fun g _ wx => ∃ acc r' : Ppa.Bs, Vs B b w1.heap.size s x w 34 o (4 * t.length) g acc r' wx)
  case atStart =>
    have hI := bld_fresh (w1.setCell ⟨b, 1, none⟩ (.int .i64 ((k : Int) + 1)))
    have hz : (w1.setCell ⟨b, 1, none⟩ (.int .i64 ((k : Int) + 1))).heap.size = w1.heap.size := by simp
    rw [hz] at hI
    have hbb : ∀ o', Below w1.heap.size (w1.setCell ⟨b, 1, none⟩ (.int .i64 ((k : Int) + 1))) ((w1.setCell ⟨b, 1, none⟩ (.int .i64 ((k : Int) + 1))).alloc o') := fun o' => (Below.refl _ _).alloc (by rw [hz]; exact Nat.le_refl _) o'
    exact ⟨[], t, HP3.low (hbb _) (by omega) (by omega), hI, grown_low G3.out ((hbb _).mono hz1), HO.out, by omega, HT.out, by simp⟩
  case round =>
    obtain ⟨acc, r', V⟩ := hrel
    have hbW : b < w1.heap.size := by omega
    have hBW : B ≤ w1.heap.size := by omega
    have htl : t.length ≤ 65536 := by have h1 := h.len; have h2 := h.small; simp at h1; omega
    clear HP3 H1 G1 G3 c1 f1 hk k0 k1 HQ h
    obtain ⟨g, rfl⟩ : ∃ g, gk = g + 1 := ⟨gk - 1, by have := V.fuel; omega⟩
    cases r' with
    | nil =>
      have HX : Kept (o = .error []) := ⟨by have h1 := V.val; rw [Ppa.valF] at h1; injection h1 with h1; exact h1.symm⟩
      have HP : Kept (Ppa.peek [] = -1) := ⟨rfl⟩
      go_wp2_with (first | (go_at_call 67; refine (peek_r V.pa).mono ?_; rintro e w3 ⟨rfl, hb3⟩; rw [HP.out]; have V3 := V.below hb3; clear hb3) | (go_at_call 61; refine (no_r V3.pa).mono ?_; rintro e w4 ⟨rfl, rfl⟩))
      exact ⟨rfl, V3.grown, by rw [HX.out]; exact ⟨rfl, by simp⟩⟩
    | cons y u =>
      by_cases y0 : y = 34
      · subst y0
        have HX : Kept (o = .ok (acc, u)) := ⟨by have h1 := V.val; rw [Ppa.valF, if_pos rfl] at h1; injection h1 with h1; exact h1.symm⟩
        have HP : Kept (Ppa.peek (34 :: u) = 34) := ⟨(peek_is 34 (by decide) _).2 rfl⟩
        go_wp2_with (first | (go_at_call 67; refine (peek_r V.pa).mono ?_; rintro e w3 ⟨rfl, hb3⟩; rw [HP.out]; have V3 := V.below hb3; clear hb3; obtain ⟨k, hk, c1⟩ := V3.pa.cell; have f1 := V3.pa.row.unf 1; have k0 : (0 : Int) ≤ (k : Int) := (by omega); have k1 : (k : Int) ≤ 65536 := (by have := V3.pa.small; omega); have HP4 : Pa B b s x u (w3.setCell ⟨b, 1, none⟩ (.int .i64 ((k : Int) + 1))) := V3.pa.put ((List.suffix_cons _ _).trans V3.pa.suf) (by simp at hk; omega); have HG4 := grown_set (World.grownBy.refl w3 (some b)) 1 (.int .i64 ((k : Int) + 1)); have HI4 := Is_grown V3.bld HG4 hbW (Nat.le_refl _); have G4 := Kept.mk (V3.grown.trans HG4); clear HG4) | (go_at_call 30; refine (string_any (Nat.le_refl _) HI4).mono ?_; rintro e w5 ⟨rfl, _, hb5, _⟩; have H5 := HP4.low hb5 hbW hBW; have G5 := Kept.mk (grown_low G4.out (hb5.mono hz1)); clear hb5))
        go_ret
        exact ⟨G5.out, by rw [HX.out]; exact ⟨rfl, H5⟩⟩
      · by_cases y1 : y = 60
        · subst y1
          have HX : Kept (o = .error (60 :: u)) := ⟨by have h1 := V.val; rw [Ppa.valF, if_neg y0, if_pos rfl] at h1; injection h1 with h1; exact h1.symm⟩
          have HP : Kept (Ppa.peek (60 :: u) = 60) := ⟨(peek_is 60 (by decide) _).2 rfl⟩
          go_wp2_with (first | (go_at_call 67; refine (peek_r V.pa).mono ?_; rintro e w3 ⟨rfl, hb3⟩; rw [HP.out]; have V3 := V.below hb3; clear hb3) | (go_at_call 61; refine (no_r V3.pa).mono ?_; rintro e w4 ⟨rfl, rfl⟩))
          exact ⟨rfl, V3.grown, by rw [HX.out]; exact ⟨rfl, V3.pa.len⟩⟩
        · by_cases y2 : y = 38
          · subst y2
            have HP : Kept (Ppa.peek (38 :: u) = 38) := ⟨(peek_is 38 (by decide) _).2 rfl⟩
            have hv := V.val
            rw [Ppa.valF, if_neg y0, if_neg y1, if_pos rfl] at hv
            have htx := Ppa.texts_low (by decide) V.tx
            cases hm : Ppa.refM u with
            | error t' =>
              rw [hm] at hv
              have HX : Kept (o = .error t') := ⟨by injection hv with hv; exact hv.symm⟩
              have HM := Kept.mk hm
              clear hm hv htx
              go_wp2_with (first | (go_at_call 67; refine (peek_r V.pa).mono ?_; rintro e w3 ⟨rfl, hb3⟩; rw [HP.out]; have V3 := V.below hb3; clear hb3; obtain ⟨k, hk, c1⟩ := V3.pa.cell; have f1 := V3.pa.row.unf 1; have k0 : (0 : Int) ≤ (k : Int) := (by omega); have k1 : (k : Int) ≤ 65536 := (by have := V3.pa.small; omega); have HP4 : Pa B b s x u (w3.setCell ⟨b, 1, none⟩ (.int .i64 ((k : Int) + 1))) := V3.pa.put ((List.suffix_cons _ _).trans V3.pa.suf) (by simp at hk; omega); have HG4 := grown_set (World.grownBy.refl w3 (some b)) 1 (.int .i64 ((k : Int) + 1)); have HI4 := Is_grown V3.bld HG4 hbW (Nat.le_refl _); have G4 := Kept.mk (V3.grown.trans HG4); clear HG4) | (go_at_call 71; refine (ways_no (reference_r HP4) HM.out).mono ?_; rintro e w5 ⟨rfl, hl5, hg5⟩; have G5 := Kept.mk (G4.out.trans hg5); clear hg5))
              exact ⟨rfl, G5.out, by rw [HX.out]; exact ⟨rfl, hl5⟩⟩
            | ok p =>
              obtain ⟨n, t'⟩ := p
              rw [hm] at hv
              have hok := refM_ok hm
              have hen := (Lib.runeCells_le (n : Int)).2
              rw [Lib.runeCells_length] at hen
              have hroom := V.room
              have HV := Kept.mk hv
              have HTX := Kept.mk (refM_texts htx hm)
              have HM := Kept.mk hm
              clear hm hv htx
              go_wp2_with (first | (go_at_call 67; refine (peek_r V.pa).mono ?_; rintro e w3 ⟨rfl, hb3⟩; rw [HP.out]; have V3 := V.below hb3; clear hb3; obtain ⟨k, hk, c1⟩ := V3.pa.cell; have f1 := V3.pa.row.unf 1; have k0 : (0 : Int) ≤ (k : Int) := (by omega); have k1 : (k : Int) ≤ 65536 := (by have := V3.pa.small; omega); have HP4 : Pa B b s x u (w3.setCell ⟨b, 1, none⟩ (.int .i64 ((k : Int) + 1))) := V3.pa.put ((List.suffix_cons _ _).trans V3.pa.suf) (by simp at hk; omega); have HG4 := grown_set (World.grownBy.refl w3 (some b)) 1 (.int .i64 ((k : Int) + 1)); have HI4 := Is_grown V3.bld HG4 hbW (Nat.le_refl _); have G4 := Kept.mk (V3.grown.trans HG4); clear HG4) | (go_at_call 71; refine (ways_ok (reference_r HP4) HM.out).mono ?_; rintro e w5 ⟨rfl, hP5, hg5⟩; have HI5 := Is_grown HI4 hg5 hbW (Nat.le_refl _); have G5 := Kept.mk (G4.out.trans hg5); clear hg5) | (go_at_call 70; refine (rune_any (n : Int) (by omega) (by omega) bld_ne (Nat.le_refl _) HI5 lies_bld (by omega)).mono ?_; rintro e w6 ⟨⟨m6, rfl⟩, hI6, hb6, _⟩; have H6 := hP5.low hb6 hbW hBW; have G6 := Kept.mk (grown_low G5.out (hb6.mono hz1)); clear hb6))
              go_roundg g
              case measure => omega
              case rel => exact ⟨acc ++ Lib.encodeRune (n : Int), t', H6, hI6, G6.out, HV.out, by have := V3.fuel; simp at this; omega, HTX.out, by simp at hroom ⊢; omega⟩
          · have p0 : ¬ Ppa.peek (y :: u) = 34 := fun e => y0 (by have h1 := (peek_is 34 (by decide) (y :: u)).1 e; injection h1)
            have p1 : ¬ Ppa.peek (y :: u) = 60 := fun e => y1 (by have h1 := (peek_is 60 (by decide) (y :: u)).1 e; injection h1)
            have p2 : ¬ Ppa.peek (y :: u) = 38 := fun e => y2 (by have h1 := (peek_is 38 (by decide) (y :: u)).1 e; injection h1)
            have p3 : ¬ Ppa.peek (y :: u) = -1 := fun e => by have h1 := (peek_lo (y :: u)).1; unfold Ppa.peek at e; rw [if_neg (by simp)] at e; omega
            have hroom := V.room
            have hfu := V.fuel
            simp only [List.length_cons] at hroom hfu
            cases hbl : blankH (y :: u) with
            | true =>
              have hbc : Pch.blankC y = true := hbl
              have hlow := blankC_low hbc
              have hHP := peek_low y u hlow
              have htu := Ppa.texts_low hlow V.tx
              by_cases y3 : y = 13
              · subst y3
                have hv := V.val
                rw [Ppa.valF, if_neg y0, if_neg y1, if_neg y2, if_pos rfl] at hv
                have HP : Kept (Ppa.peek (13 :: u) = 13) := ⟨(peek_is 13 (by decide) _).2 rfl⟩
                have HB := Kept.mk hbl
                have HVL := Kept.mk hv
                have hnl : (if Ppa.peek u = 10 then Ppa.skip u else u) = Ppa.nlL u := by
                  have pk : Ppa.peek u = 10 ↔ u.head? = some 10 := peek_is 10 (by decide) u
                  by_cases e : u.head? = some 10
                  · rw [if_pos (pk.2 e)]
                    obtain ⟨v, rfl⟩ := head_cons e
                    exact skip_low 10 v (by decide)
                  · rw [if_neg (fun e2 => e (pk.1 e2))]
                    cases u with
                    | nil => rfl
                    | cons z v =>
                      unfold Ppa.nlL
                      split
                      · rename_i h2
                        injection h2 with h2 _
                        exact absurd (by rw [h2]; rfl) e
                      · rfl
                have htn : Pch.textsL (Ppa.nlL u) = true := by
                  unfold Ppa.nlL
                  split
                  · exact Ppa.texts_low (by decide) htu
                  · exact htu
                have hnlen := nlL_len u
                have HNL := Kept.mk hnl
                have HTX := Kept.mk htn
                clear hbl hbc hv hHP htu hnl htn y0 y1 y2 p0 p1 p2 p3
                go_wp2_with (first | (go_at_call 67; refine (peek_r V.pa).mono ?_; rintro e w3 ⟨rfl, hb3⟩; rw [HP.out]; have V3 := V.below hb3; clear hb3) | (go_at_call 84; refine (blank_r V3.pa).mono ?_; rintro e w7 ⟨rfl, hb7⟩; rw [HB.out]; have V7 := V3.below hb7; clear hb7; obtain ⟨k, hk, c1⟩ := V7.pa.cell; have f1 := V7.pa.row.unf 1; have k0 : (0 : Int) ≤ (k : Int) := (by omega); have k1 : (k : Int) ≤ 65536 := (by have := V7.pa.small; omega); have HP4 : Pa B b s x u (w7.setCell ⟨b, 1, none⟩ (.int .i64 ((k : Int) + 1))) := V7.pa.put ((List.suffix_cons _ _).trans V7.pa.suf) (by simp at hk; omega); have HG4 := grown_set (World.grownBy.refl w7 (some b)) 1 (.int .i64 ((k : Int) + 1)); have HI4 := Is_grown V7.bld HG4 hbW (Nat.le_refl _); have G4 := Kept.mk (V7.grown.trans HG4); clear HG4) | (go_at_call 58; refine (may_r 10 (by omega) HP4).mono ?_; rintro e w8 ⟨rfl, hP8, hg8⟩; rw [HNL.out] at hP8; have HI8 := Is_grown HI4 hg8 hbW (Nat.le_refl _); have G8 := Kept.mk (G4.out.trans hg8); clear hg8) | (go_at_call 44; refine (byte_any 32 bld_ne (Nat.le_refl _) HI8 lies_bld (by omega)).mono ?_; rintro e w9 ⟨rfl, hI9, hb9, _⟩; have H9 := hP8.low hb9 hbW hBW; have G9 := Kept.mk (grown_low G8.out (hb9.mono hz1)); clear hb9))
                go_roundg g
                case measure => omega
                case rel => exact ⟨acc ++ [32], Ppa.nlL u, H9, hI9, G9.out, HVL.out, by omega, HTX.out, by simp; omega⟩
              · have hv := V.val
                rw [Ppa.valF, if_neg y0, if_neg y1, if_neg y2, if_neg y3, if_pos hbc] at hv
                have p4 : ¬ Ppa.peek (y :: u) = 13 := fun e => y3 (by have h1 := (peek_is 13 (by decide) (y :: u)).1 e; injection h1)
                generalize hPP : Ppa.peek (y :: u) = P at p0 p1 p2 p3 p4
                have q1 : (P == 60) = false := by simpa using p1
                have q3 : (P == -1) = false := by simpa using p3
                have HP := Kept.mk hPP
                have HB := Kept.mk hbl
                have HVL := Kept.mk hv
                have HTX := Kept.mk htu
                clear hbl hbc hv hHP htu hPP y0 y1 y2 y3
                go_wp2_with (first | (go_at_call 67; refine (peek_r V.pa).mono ?_; rintro e w3 ⟨rfl, hb3⟩; rw [HP.out]; have V3 := V.below hb3; clear hb3) | (go_at_call 84; refine (blank_r V3.pa).mono ?_; rintro e w7 ⟨rfl, hb7⟩; rw [HB.out]; have V7 := V3.below hb7; clear hb7; obtain ⟨k, hk, c1⟩ := V7.pa.cell; have f1 := V7.pa.row.unf 1; have k0 : (0 : Int) ≤ (k : Int) := (by omega); have k1 : (k : Int) ≤ 65536 := (by have := V7.pa.small; omega); have HP4 : Pa B b s x u (w7.setCell ⟨b, 1, none⟩ (.int .i64 ((k : Int) + 1))) := V7.pa.put ((List.suffix_cons _ _).trans V7.pa.suf) (by simp at hk; omega); have HG4 := grown_set (World.grownBy.refl w7 (some b)) 1 (.int .i64 ((k : Int) + 1)); have HI4 := Is_grown V7.bld HG4 hbW (Nat.le_refl _); have G4 := Kept.mk (V7.grown.trans HG4); clear HG4) | (go_at_call 44; refine (byte_any 32 bld_ne (Nat.le_refl _) HI4 lies_bld (by omega)).mono ?_; rintro e w9 ⟨rfl, hI9, hb9, _⟩; have H9 := HP4.low hb9 hbW hBW; have G9 := Kept.mk (grown_low G4.out (hb9.mono hz1)); clear hb9))
                go_roundg g
                case measure => omega
                case rel => exact ⟨acc ++ [32], u, H9, hI9, G9.out, HVL.out, by omega, HTX.out, by simp; omega⟩
            | false =>
              have hnb : ¬ Pch.blankC y = true := by intro e; rw [show blankH (y :: u) = Pch.blankC y from rfl, e] at hbl; cases hbl
              have hne : (y :: u) ≠ [] := by simp
              have hd1 := Lib.decodeL_width (y :: u)
              have hd2 := Lib.decodeL_le (y :: u) hne
              have hcb := Ppa.char_bytes hne V.tx
              have htx := (Ppa.texts_step hne V.tx).2.2
              have hpe : Ppa.peek (y :: u) = ((Lib.decodeL (y :: u)).1 : Int) := by unfold Ppa.peek; rw [if_neg hne]
              have hval : Ppa.valF 34 (g + 1 - (Lib.decodeL (y :: u)).2) (acc ++ Lib.encodeRune (Ppa.peek (y :: u))) (Ppa.skip (y :: u)) = some o := by
                have hv := V.val
                rw [hpe, hcb]
                unfold Ppa.skip
                rcases Nat.lt_or_ge y.toNat 128 with hy | hy
                · rw [Ppa.valF, if_neg y0, if_neg y1, if_neg y2, if_neg (fun e => hnb (by rw [e]; decide)), if_neg hnb] at hv
                  rw [Lib.decodeL_ascii y u hy]
                  exact hv
                · have h1 := Ppa.valF_copy 34 (by decide) ((y :: u).take (Lib.decodeL (y :: u)).2) (g + 1 - (Lib.decodeL (y :: u)).2) acc ((y :: u).drop (Lib.decodeL (y :: u)).2) (Ppa.char_high hy V.tx)
                  rw [List.take_append_drop, List.length_take, Nat.min_eq_left hd2, show g + 1 - (Lib.decodeL (y :: u)).2 + (Lib.decodeL (y :: u)).2 = g + 1 by simp only [List.length_cons] at hd2; omega, hv] at h1
                  exact h1.symm
              have hen := (Lib.runeCells_le (Ppa.peek (y :: u))).2
              rw [Lib.runeCells_length] at hen
              have hsl : (Ppa.skip (y :: u)).length = (y :: u).length - (Lib.decodeL (y :: u)).2 := by unfold Ppa.skip; exact List.length_drop
              simp only [List.length_cons] at hsl hd2
              have hlo := (peek_lo (y :: u)).1
              have hhi := (peek_lo (y :: u)).2
              generalize (Lib.decodeL (y :: u)).2 = K at hd1 hd2 hval hsl
              generalize hS : Ppa.skip (y :: u) = S at hval hsl htx
              have HS := Kept.mk hS
              generalize hPP : Ppa.peek (y :: u) = P at p0 p1 p2 p3 hval hen hlo hhi
              have q1 : (P == 60) = false := by simpa using p1
              have q3 : (P == -1) = false := by simpa using p3
              have HP := Kept.mk hPP
              have HB := Kept.mk hbl
              have HVL := Kept.mk hval
              have HTX := Kept.mk htx
              clear hbl hnb hcb hpe hS hPP hval htx y0 y1 y2
              go_wp2_with (first | (go_at_call 67; refine (peek_r V.pa).mono ?_; rintro e w3 ⟨rfl, hb3⟩; rw [HP.out]; have V3 := V.below hb3; clear hb3) | (go_at_call 84; refine (blank_r V3.pa).mono ?_; rintro e w7 ⟨rfl, hb7⟩; rw [HB.out]; have V7 := V3.below hb7; clear hb7) | (go_at_call 72; refine (next_r V7.pa (by simp)).mono ?_; rintro e w8 ⟨rfl, hP8, hg8⟩; rw [HP.out]; rw [HS.out] at hP8; have HI8 := Is_grown V7.bld hg8 hbW (Nat.le_refl _); have G8 := Kept.mk (V7.grown.trans hg8); clear hg8) | (go_at_call 70; refine (rune_any P (by omega) (by omega) bld_ne (Nat.le_refl _) HI8 lies_bld (by omega)).mono ?_; rintro e w9 ⟨⟨m9, rfl⟩, hI9, hb9, _⟩; have H9 := hP8.low hb9 hbW hBW; have G9 := Kept.mk (grown_low G8.out (hb9.mono hz1)); clear hb9))
              go_roundg (g + 1 - K)
              case measure => omega
              case rel => exact ⟨acc ++ Lib.encodeRune P, S, H9, hI9, G9.out, HVL.out, by omega, HTX.out, by simp; omega⟩
set_option maxRecDepth 100000 in
set_option maxHeartbeats 2000000 in
theorem value_apos {B b : Nat} {s : ByteArray} {x : List Value} {t : Ppa.Bs} {w : World} (h : Pa B b s x (39 :: t) w) (ht : Pch.textsL t = true) :
    Calls Tryz.prog 115 #[.pointer (some ⟨b, 0, none⟩)] w fun e w' => WaysV B b s x w strV (Ppa.valM (39 :: t)) e w' := by
  obtain ⟨o, ho⟩ := valF_some 39 (t.length + 1) [] t (by omega)
  have hM : Ppa.valM (39 :: t) = o := by
    unfold Ppa.valM
    simp [ho]
  rw [hM]
  have HO := Kept.mk ho
  have HT := Kept.mk ht
  have HQ : Kept (Ppa.peek (39 :: t) = 39) := ⟨(peek_is 39 (by decide) _).2 rfl⟩
  have hblt := h.row.lt
  have hBw : B ≤ w.heap.size := h.ev.le
  clear hM ho ht
  go_enter Tryz.func115, Tryz.ntmps115
  go_wp2_with (go_at_call 67; refine (peek_r h).mono ?_; rintro e w1 ⟨rfl, hb1⟩; rw [HQ.out]; have hz1 := hb1.size; have H1 := h.below hb1; have G1 := Kept.mk (grown_of_below hb1 (some b)); clear hb1; have hs9 := H1.small; obtain ⟨k, hk, c1⟩ := H1.cell; have f1 := H1.row.unf 1; have k0 : (0 : Int) ≤ (k : Int) := (by omega); have k1 : (k : Int) ≤ 65536 := (by omega); have HP3 : Pa B b s x t (w1.setCell ⟨b, 1, none⟩ (.int .i64 ((k : Int) + 1))) := H1.put ((List.suffix_cons _ _).trans H1.suf) (by simp at hk; omega); have G3 := Kept.mk (grown_set G1.out 1 (.int .i64 ((k : Int) + 1))))
  go_loopg [5] (t.length + 1) (fun g _ wx => ∃ acc r' : Ppa.Bs, Vs B b w1.heap.size s x w 39 o (4 * t.length) g acc r' wx)
  case atStart =>
    have hI := bld_fresh (w1.setCell ⟨b, 1, none⟩ (.int .i64 ((k : Int) + 1)))
    have hz : (w1.setCell ⟨b, 1, none⟩ (.int .i64 ((k : Int) + 1))).heap.size = w1.heap.size := by simp
    rw [hz] at hI
    have hbb : ∀ o', Below w1.heap.size (w1.setCell ⟨b, 1, none⟩ (.int .i64 ((k : Int) + 1))) ((w1.setCell ⟨b, 1, none⟩ (.int .i64 ((k : Int) + 1))).alloc o') := fun o' => (Below.refl _ _).alloc (by rw [hz]; exact Nat.le_refl _) o'
    exact ⟨[], t, HP3.low (hbb _) (by omega) (by omega), hI, grown_low G3.out ((hbb _).mono hz1), HO.out, by omega, HT.out, by simp⟩
  case round =>
    obtain ⟨acc, r', V⟩ := hrel
    have hbW : b < w1.heap.size := by omega
    have hBW : B ≤ w1.heap.size := by omega
    have htl : t.length ≤ 65536 := by have h1 := h.len; have h2 := h.small; simp at h1; omega
    clear HP3 H1 G1 G3 c1 f1 hk k0 k1 HQ h
    obtain ⟨g, rfl⟩ : ∃ g, gk = g + 1 := ⟨gk - 1, by have := V.fuel; omega⟩
    cases r' with
    | nil =>
      have HX : Kept (o = .error []) := ⟨by have h1 := V.val; rw [Ppa.valF] at h1; injection h1 with h1; exact h1.symm⟩
      have HP : Kept (Ppa.peek [] = -1) := ⟨rfl⟩
      go_wp2_with (first | (go_at_call 67; refine (peek_r V.pa).mono ?_; rintro e w3 ⟨rfl, hb3⟩; rw [HP.out]; have V3 := V.below hb3; clear hb3) | (go_at_call 61; refine (no_r V3.pa).mono ?_; rintro e w4 ⟨rfl, rfl⟩))
      exact ⟨rfl, V3.grown, by rw [HX.out]; exact ⟨rfl, by simp⟩⟩
    | cons y u =>
      by_cases y0 : y = 39
      · subst y0
        have HX : Kept (o = .ok (acc, u)) := ⟨by have h1 := V.val; rw [Ppa.valF, if_pos rfl] at h1; injection h1 with h1; exact h1.symm⟩
        have HP : Kept (Ppa.peek (39 :: u) = 39) := ⟨(peek_is 39 (by decide) _).2 rfl⟩
        go_wp2_with (first | (go_at_call 67; refine (peek_r V.pa).mono ?_; rintro e w3 ⟨rfl, hb3⟩; rw [HP.out]; have V3 := V.below hb3; clear hb3; obtain ⟨k, hk, c1⟩ := V3.pa.cell; have f1 := V3.pa.row.unf 1; have k0 : (0 : Int) ≤ (k : Int) := (by omega); have k1 : (k : Int) ≤ 65536 := (by have := V3.pa.small; omega); have HP4 : Pa B b s x u (w3.setCell ⟨b, 1, none⟩ (.int .i64 ((k : Int) + 1))) := V3.pa.put ((List.suffix_cons _ _).trans V3.pa.suf) (by simp at hk; omega); have HG4 := grown_set (World.grownBy.refl w3 (some b)) 1 (.int .i64 ((k : Int) + 1)); have HI4 := Is_grown V3.bld HG4 hbW (Nat.le_refl _); have G4 := Kept.mk (V3.grown.trans HG4); clear HG4) | (go_at_call 30; refine (string_any (Nat.le_refl _) HI4).mono ?_; rintro e w5 ⟨rfl, _, hb5, _⟩; have H5 := HP4.low hb5 hbW hBW; have G5 := Kept.mk (grown_low G4.out (hb5.mono hz1)); clear hb5))
        go_ret
        exact ⟨G5.out, by rw [HX.out]; exact ⟨rfl, H5⟩⟩
      · by_cases y1 : y = 60
        · subst y1
          have HX : Kept (o = .error (60 :: u)) := ⟨by have h1 := V.val; rw [Ppa.valF, if_neg y0, if_pos rfl] at h1; injection h1 with h1; exact h1.symm⟩
          have HP : Kept (Ppa.peek (60 :: u) = 60) := ⟨(peek_is 60 (by decide) _).2 rfl⟩
          go_wp2_with (first | (go_at_call 67; refine (peek_r V.pa).mono ?_; rintro e w3 ⟨rfl, hb3⟩; rw [HP.out]; have V3 := V.below hb3; clear hb3) | (go_at_call 61; refine (no_r V3.pa).mono ?_; rintro e w4 ⟨rfl, rfl⟩))
          exact ⟨rfl, V3.grown, by rw [HX.out]; exact ⟨rfl, V3.pa.len⟩⟩
        · by_cases y2 : y = 38
          · subst y2
            have HP : Kept (Ppa.peek (38 :: u) = 38) := ⟨(peek_is 38 (by decide) _).2 rfl⟩
            have hv := V.val
            rw [Ppa.valF, if_neg y0, if_neg y1, if_pos rfl] at hv
            have htx := Ppa.texts_low (by decide) V.tx
            cases hm : Ppa.refM u with
            | error t' =>
              rw [hm] at hv
              have HX : Kept (o = .error t') := ⟨by injection hv with hv; exact hv.symm⟩
              have HM := Kept.mk hm
              clear hm hv htx
              go_wp2_with (first | (go_at_call 67; refine (peek_r V.pa).mono ?_; rintro e w3 ⟨rfl, hb3⟩; rw [HP.out]; have V3 := V.below hb3; clear hb3; obtain ⟨k, hk, c1⟩ := V3.pa.cell; have f1 := V3.pa.row.unf 1; have k0 : (0 : Int) ≤ (k : Int) := (by omega); have k1 : (k : Int) ≤ 65536 := (by have := V3.pa.small; omega); have HP4 : Pa B b s x u (w3.setCell ⟨b, 1, none⟩ (.int .i64 ((k : Int) + 1))) := V3.pa.put ((List.suffix_cons _ _).trans V3.pa.suf) (by simp at hk; omega); have HG4 := grown_set (World.grownBy.refl w3 (some b)) 1 (.int .i64 ((k : Int) + 1)); have HI4 := Is_grown V3.bld HG4 hbW (Nat.le_refl _); have G4 := Kept.mk (V3.grown.trans HG4); clear HG4) | (go_at_call 71; refine (ways_no (reference_r HP4) HM.out).mono ?_; rintro e w5 ⟨rfl, hl5, hg5⟩; have G5 := Kept.mk (G4.out.trans hg5); clear hg5))
              exact ⟨rfl, G5.out, by rw [HX.out]; exact ⟨rfl, hl5⟩⟩
            | ok p =>
              obtain ⟨n, t'⟩ := p
              rw [hm] at hv
              have hok := refM_ok hm
              have hen := (Lib.runeCells_le (n : Int)).2
              rw [Lib.runeCells_length] at hen
              have hroom := V.room
              have HV := Kept.mk hv
              have HTX := Kept.mk (refM_texts htx hm)
              have HM := Kept.mk hm
              clear hm hv htx
              go_wp2_with (first | (go_at_call 67; refine (peek_r V.pa).mono ?_; rintro e w3 ⟨rfl, hb3⟩; rw [HP.out]; have V3 := V.below hb3; clear hb3; obtain ⟨k, hk, c1⟩ := V3.pa.cell; have f1 := V3.pa.row.unf 1; have k0 : (0 : Int) ≤ (k : Int) := (by omega); have k1 : (k : Int) ≤ 65536 := (by have := V3.pa.small; omega); have HP4 : Pa B b s x u (w3.setCell ⟨b, 1, none⟩ (.int .i64 ((k : Int) + 1))) := V3.pa.put ((List.suffix_cons _ _).trans V3.pa.suf) (by simp at hk; omega); have HG4 := grown_set (World.grownBy.refl w3 (some b)) 1 (.int .i64 ((k : Int) + 1)); have HI4 := Is_grown V3.bld HG4 hbW (Nat.le_refl _); have G4 := Kept.mk (V3.grown.trans HG4); clear HG4) | (go_at_call 71; refine (ways_ok (reference_r HP4) HM.out).mono ?_; rintro e w5 ⟨rfl, hP5, hg5⟩; have HI5 := Is_grown HI4 hg5 hbW (Nat.le_refl _); have G5 := Kept.mk (G4.out.trans hg5); clear hg5) | (go_at_call 70; refine (rune_any (n : Int) (by omega) (by omega) bld_ne (Nat.le_refl _) HI5 lies_bld (by omega)).mono ?_; rintro e w6 ⟨⟨m6, rfl⟩, hI6, hb6, _⟩; have H6 := hP5.low hb6 hbW hBW; have G6 := Kept.mk (grown_low G5.out (hb6.mono hz1)); clear hb6))
              go_roundg g
              case measure => omega
              case rel => exact ⟨acc ++ Lib.encodeRune (n : Int), t', H6, hI6, G6.out, HV.out, by have := V3.fuel; simp at this; omega, HTX.out, by simp at hroom ⊢; omega⟩
          · have p0 : ¬ Ppa.peek (y :: u) = 39 := fun e => y0 (by have h1 := (peek_is 39 (by decide) (y :: u)).1 e; injection h1)
            have p1 : ¬ Ppa.peek (y :: u) = 60 := fun e => y1 (by have h1 := (peek_is 60 (by decide) (y :: u)).1 e; injection h1)
            have p2 : ¬ Ppa.peek (y :: u) = 38 := fun e => y2 (by have h1 := (peek_is 38 (by decide) (y :: u)).1 e; injection h1)
            have p3 : ¬ Ppa.peek (y :: u) = -1 := fun e => by have h1 := (peek_lo (y :: u)).1; unfold Ppa.peek at e; rw [if_neg (by simp)] at e; omega
            have hroom := V.room
            have hfu := V.fuel
            simp only [List.length_cons] at hroom hfu
            cases hbl : blankH (y :: u) with
            | true =>
              have hbc : Pch.blankC y = true := hbl
              have hlow := blankC_low hbc
              have hHP := peek_low y u hlow
              have htu := Ppa.texts_low hlow V.tx
              by_cases y3 : y = 13
              · subst y3
                have hv := V.val
                rw [Ppa.valF, if_neg y0, if_neg y1, if_neg y2, if_pos rfl] at hv
                have HP : Kept (Ppa.peek (13 :: u) = 13) := ⟨(peek_is 13 (by decide) _).2 rfl⟩
                have HB := Kept.mk hbl
                have HVL := Kept.mk hv
                have hnl : (if Ppa.peek u = 10 then Ppa.skip u else u) = Ppa.nlL u := by
                  have pk : Ppa.peek u = 10 ↔ u.head? = some 10 := peek_is 10 (by decide) u
                  by_cases e : u.head? = some 10
                  · rw [if_pos (pk.2 e)]
                    obtain ⟨v, rfl⟩ := head_cons e
                    exact skip_low 10 v (by decide)
                  · rw [if_neg (fun e2 => e (pk.1 e2))]
                    cases u with
                    | nil => rfl
                    | cons z v =>
                      unfold Ppa.nlL
                      split
                      · rename_i h2
                        injection h2 with h2 _
                        exact absurd (by rw [h2]; rfl) e
                      · rfl
                have htn : Pch.textsL (Ppa.nlL u) = true := by
                  unfold Ppa.nlL
                  split
                  · exact Ppa.texts_low (by decide) htu
                  · exact htu
                have hnlen := nlL_len u
                have HNL := Kept.mk hnl
                have HTX := Kept.mk htn
                clear hbl hbc hv hHP htu hnl htn y0 y1 y2 p0 p1 p2 p3
                go_wp2_with (first | (go_at_call 67; refine (peek_r V.pa).mono ?_; rintro e w3 ⟨rfl, hb3⟩; rw [HP.out]; have V3 := V.below hb3; clear hb3) | (go_at_call 84; refine (blank_r V3.pa).mono ?_; rintro e w7 ⟨rfl, hb7⟩; rw [HB.out]; have V7 := V3.below hb7; clear hb7; obtain ⟨k, hk, c1⟩ := V7.pa.cell; have f1 := V7.pa.row.unf 1; have k0 : (0 : Int) ≤ (k : Int) := (by omega); have k1 : (k : Int) ≤ 65536 := (by have := V7.pa.small; omega); have HP4 : Pa B b s x u (w7.setCell ⟨b, 1, none⟩ (.int .i64 ((k : Int) + 1))) := V7.pa.put ((List.suffix_cons _ _).trans V7.pa.suf) (by simp at hk; omega); have HG4 := grown_set (World.grownBy.refl w7 (some b)) 1 (.int .i64 ((k : Int) + 1)); have HI4 := Is_grown V7.bld HG4 hbW (Nat.le_refl _); have G4 := Kept.mk (V7.grown.trans HG4); clear HG4) | (go_at_call 58; refine (may_r 10 (by omega) HP4).mono ?_; rintro e w8 ⟨rfl, hP8, hg8⟩; rw [HNL.out] at hP8; have HI8 := Is_grown HI4 hg8 hbW (Nat.le_refl _); have G8 := Kept.mk (G4.out.trans hg8); clear hg8) | (go_at_call 44; refine (byte_any 32 bld_ne (Nat.le_refl _) HI8 lies_bld (by omega)).mono ?_; rintro e w9 ⟨rfl, hI9, hb9, _⟩; have H9 := hP8.low hb9 hbW hBW; have G9 := Kept.mk (grown_low G8.out (hb9.mono hz1)); clear hb9))
                go_roundg g
                case measure => omega
                case rel => exact ⟨acc ++ [32], Ppa.nlL u, H9, hI9, G9.out, HVL.out, by omega, HTX.out, by simp; omega⟩
              · have hv := V.val
                rw [Ppa.valF, if_neg y0, if_neg y1, if_neg y2, if_neg y3, if_pos hbc] at hv
                have p4 : ¬ Ppa.peek (y :: u) = 13 := fun e => y3 (by have h1 := (peek_is 13 (by decide) (y :: u)).1 e; injection h1)
                generalize hPP : Ppa.peek (y :: u) = P at p0 p1 p2 p3 p4
                have q1 : (P == 60) = false := by simpa using p1
                have q3 : (P == -1) = false := by simpa using p3
                have HP := Kept.mk hPP
                have HB := Kept.mk hbl
                have HVL := Kept.mk hv
                have HTX := Kept.mk htu
                clear hbl hbc hv hHP htu hPP y0 y1 y2 y3
                go_wp2_with (first | (go_at_call 67; refine (peek_r V.pa).mono ?_; rintro e w3 ⟨rfl, hb3⟩; rw [HP.out]; have V3 := V.below hb3; clear hb3) | (go_at_call 84; refine (blank_r V3.pa).mono ?_; rintro e w7 ⟨rfl, hb7⟩; rw [HB.out]; have V7 := V3.below hb7; clear hb7; obtain ⟨k, hk, c1⟩ := V7.pa.cell; have f1 := V7.pa.row.unf 1; have k0 : (0 : Int) ≤ (k : Int) := (by omega); have k1 : (k : Int) ≤ 65536 := (by have := V7.pa.small; omega); have HP4 : Pa B b s x u (w7.setCell ⟨b, 1, none⟩ (.int .i64 ((k : Int) + 1))) := V7.pa.put ((List.suffix_cons _ _).trans V7.pa.suf) (by simp at hk; omega); have HG4 := grown_set (World.grownBy.refl w7 (some b)) 1 (.int .i64 ((k : Int) + 1)); have HI4 := Is_grown V7.bld HG4 hbW (Nat.le_refl _); have G4 := Kept.mk (V7.grown.trans HG4); clear HG4) | (go_at_call 44; refine (byte_any 32 bld_ne (Nat.le_refl _) HI4 lies_bld (by omega)).mono ?_; rintro e w9 ⟨rfl, hI9, hb9, _⟩; have H9 := HP4.low hb9 hbW hBW; have G9 := Kept.mk (grown_low G4.out (hb9.mono hz1)); clear hb9))
                go_roundg g
                case measure => omega
                case rel => exact ⟨acc ++ [32], u, H9, hI9, G9.out, HVL.out, by omega, HTX.out, by simp; omega⟩
            | false =>
              have hnb : ¬ Pch.blankC y = true := by intro e; rw [show blankH (y :: u) = Pch.blankC y from rfl, e] at hbl; cases hbl
              have hne : (y :: u) ≠ [] := by simp
              have hd1 := Lib.decodeL_width (y :: u)
              have hd2 := Lib.decodeL_le (y :: u) hne
              have hcb := Ppa.char_bytes hne V.tx
              have htx := (Ppa.texts_step hne V.tx).2.2
              have hpe : Ppa.peek (y :: u) = ((Lib.decodeL (y :: u)).1 : Int) := by unfold Ppa.peek; rw [if_neg hne]
              have hval : Ppa.valF 39 (g + 1 - (Lib.decodeL (y :: u)).2) (acc ++ Lib.encodeRune (Ppa.peek (y :: u))) (Ppa.skip (y :: u)) = some o := by
                have hv := V.val
                rw [hpe, hcb]
                unfold Ppa.skip
                rcases Nat.lt_or_ge y.toNat 128 with hy | hy
                · rw [Ppa.valF, if_neg y0, if_neg y1, if_neg y2, if_neg (fun e => hnb (by rw [e]; decide)), if_neg hnb] at hv
                  rw [Lib.decodeL_ascii y u hy]
                  exact hv
                · have h1 := Ppa.valF_copy 39 (by decide) ((y :: u).take (Lib.decodeL (y :: u)).2) (g + 1 - (Lib.decodeL (y :: u)).2) acc ((y :: u).drop (Lib.decodeL (y :: u)).2) (Ppa.char_high hy V.tx)
                  rw [List.take_append_drop, List.length_take, Nat.min_eq_left hd2, show g + 1 - (Lib.decodeL (y :: u)).2 + (Lib.decodeL (y :: u)).2 = g + 1 by simp only [List.length_cons] at hd2; omega, hv] at h1
                  exact h1.symm
              have hen := (Lib.runeCells_le (Ppa.peek (y :: u))).2
              rw [Lib.runeCells_length] at hen
              have hsl : (Ppa.skip (y :: u)).length = (y :: u).length - (Lib.decodeL (y :: u)).2 := by unfold Ppa.skip; exact List.length_drop
              simp only [List.length_cons] at hsl hd2
              have hlo := (peek_lo (y :: u)).1
              have hhi := (peek_lo (y :: u)).2
              generalize (Lib.decodeL (y :: u)).2 = K at hd1 hd2 hval hsl
              generalize hS : Ppa.skip (y :: u) = S at hval hsl htx
              have HS := Kept.mk hS
              generalize hPP : Ppa.peek (y :: u) = P at p0 p1 p2 p3 hval hen hlo hhi
              have q1 : (P == 60) = false := by simpa using p1
              have q3 : (P == -1) = false := by simpa using p3
              have HP := Kept.mk hPP
              have HB := Kept.mk hbl
              have HVL := Kept.mk hval
              have HTX := Kept.mk htx
              clear hbl hnb hcb hpe hS hPP hval htx y0 y1 y2
              go_wp2_with (first | (go_at_call 67; refine (peek_r V.pa).mono ?_; rintro e w3 ⟨rfl, hb3⟩; rw [HP.out]; have V3 := V.below hb3; clear hb3) | (go_at_call 84; refine (blank_r V3.pa).mono ?_; rintro e w7 ⟨rfl, hb7⟩; rw [HB.out]; have V7 := V3.below hb7; clear hb7) | (go_at_call 72; refine (next_r V7.pa (by simp)).mono ?_; rintro e w8 ⟨rfl, hP8, hg8⟩; rw [HP.out]; rw [HS.out] at hP8; have HI8 := Is_grown V7.bld hg8 hbW (Nat.le_refl _); have G8 := Kept.mk (V7.grown.trans hg8); clear hg8) | (go_at_call 70; refine (rune_any P (by omega) (by omega) bld_ne (Nat.le_refl _) HI8 lies_bld (by omega)).mono ?_; rintro e w9 ⟨⟨m9, rfl⟩, hI9, hb9, _⟩; have H9 := hP8.low hb9 hbW hBW; have G9 := Kept.mk (grown_low G8.out (hb9.mono hz1)); clear hb9))
              go_roundg (g + 1 - K)
              case measure => omega
              case rel => exact ⟨acc ++ Lib.encodeRune P, S, H9, hI9, G9.out, HVL.out, by omega, HTX.out, by simp; omega⟩
end Go.Proofs.YtemfmidhekdekaaGreatDoor.Wps
namespace Go.Proofs.YtemfmidhekdekaaGreatDoor.Wps
open Go Go.RowKit Go.Proofs.YtemfmidhekdekaaGreatDoor.Kb Go.Proofs.YtemfmidhekdekaaGreatDoor.Wch Go.Proofs.YtemfmidhekdekaaGreatDoor.Emk

theorem valM_none {r : Ppa.Bs} (h1 : r.head? ≠ some 34) (h2 : r.head? ≠ some 39) : Ppa.valM r = .error r := by
  cases r with
  | nil => rfl
  | cons y t =>
    show (if y = 34 ∨ y = 39 then _ else Except.error (y :: t)) = _
    rw [if_neg]
    rintro (e | e)
    · exact h1 (by rw [e]; rfl)
    · exact h2 (by rw [e]; rfl)
set_option maxRecDepth 100000 in
theorem value_none {B b : Nat} {s : ByteArray} {x : List Value} {r : Ppa.Bs} {w : World} (h : Pa B b s x r w) (h1 : r.head? ≠ some 34) (h2 : r.head? ≠ some 39) :
    Calls Tryz.prog 115 #[.pointer (some ⟨b, 0, none⟩)] w fun e w' => WaysV B b s x w strV (.error r) e w' := by
  have p1 : ¬ Ppa.peek r = 34 := fun e => h1 ((peek_is 34 (by decide) r).1 e)
  have p2 : ¬ Ppa.peek r = 39 := fun e => h2 ((peek_is 39 (by decide) r).1 e)
  have q1 : (Ppa.peek r != 34) = true := by simpa using p1
  have q2 : (Ppa.peek r != 39) = true := by simpa using p2
  clear h1 h2
  go_enter Tryz.func115, Tryz.ntmps115
  go_wp2_with (first | (go_at_call 67; refine (peek_r h).mono ?_; rintro e w1 ⟨rfl, hb1⟩; have H1 := h.below hb1; have G1 := Kept.mk (grown_of_below hb1 (some b)); clear hb1) | (go_at_call 61; refine (no_r H1).mono ?_; rintro e w4 ⟨rfl, rfl⟩))
  exact ⟨rfl, G1.out, rfl, H1.len⟩
theorem value_r {B b : Nat} {s : ByteArray} {x : List Value} {r : Ppa.Bs} {w : World} (h : Pa B b s x r w) (ht : Pch.textsL r = true) :
    Calls Tryz.prog 115 #[.pointer (some ⟨b, 0, none⟩)] w fun e w' => WaysV B b s x w strV (Ppa.valM r) e w' := by
  by_cases h1 : r.head? = some 34
  · obtain ⟨t, rfl⟩ := head_cons h1
    exact value_quot h (Ppa.texts_low (by decide) ht)
  · by_cases h2 : r.head? = some 39
    · obtain ⟨t, rfl⟩ := head_cons h2
      exact value_apos h (Ppa.texts_low (by decide) ht)
    · rw [valM_none h1 h2]
      exact value_none h h1 h2
end Go.Proofs.YtemfmidhekdekaaGreatDoor.Wps
namespace Go.Proofs.YtemfmidhekdekaaGreatDoor.Wps
open Go Go.RowKit Go.Proofs.YtemfmidhekdekaaGreatDoor.Kb Go.Proofs.YtemfmidhekdekaaGreatDoor.Wch Go.Proofs.YtemfmidhekdekaaGreatDoor.Emk

abbrev preS (s : ByteArray) (k : Nat) (nv : Value) : List Value := [.string s, .int .i64 (k : Int), nv]
abbrev postS (st : Ppa.St) : List Value := [.int .i64 st.twice, .int .i64 st.deep]
/-- what stands below B is as it was, and so is each block but the parser's that holds neither bytes nor nodes -/
structure Bel (B b : Nat) (w w' : World) : Prop where
  lo : Below B w w'
  far : ∀ (g : Nat) (cs : Array Value) (T : TypeId), g ≠ b → T ≠ 5 → T ≠ 32 → w.heap[g]? = some (.cells cs T (0, 0)) → w'.heap[g]? = some (.cells cs T (0, 0))
section
variable {B b : Nat} {w w1 w2 : World}
theorem Bel.refl (B b : Nat) (w : World) : Bel B b w w := ⟨Below.refl _ _, fun _ _ _ _ _ _ h => h⟩
theorem Bel.trans (h : Bel B b w w1) (k : Bel B b w1 w2) : Bel B b w w2 := ⟨h.lo.trans k.lo, fun g cs T h1 h2 h3 h4 => k.far g cs T h1 h2 h3 (h.far g cs T h1 h2 h3 h4)⟩
theorem Bel.of (h : Below w.heap.size w w1) (hB : B ≤ w.heap.size) : Bel B b w w1 := ⟨h.mono hB, fun g _ _ _ _ _ h4 => (h.block g (Array.getElem?_eq_some_iff.1 h4).1).trans h4⟩
theorem Bel.drew (h : Bel B b w w1) : Bel B b w w1.drew := ⟨h.lo.drew, h.far⟩
theorem Bel.alloc (h : Bel B b w w1) (hB : B ≤ w1.heap.size) (o : Obj) : Bel B b w (w1.alloc o) := ⟨h.lo.alloc hB o, fun g cs T h1 h2 h3 h4 => by
  have h5 := h.far g cs T h1 h2 h3 h4
  exact (Lib.alloc_old w1 o g (Array.getElem?_eq_some_iff.1 h5).1).trans h5⟩
theorem Bel.setCell {p : Addr} (h : Bel B b w w1) (hp : B ≤ p.block) (u : Value) (hb : p.block = b := by rfl) : Bel B b w (w1.setCell p u) := ⟨h.lo.setCell hp u, fun g cs T h1 h2 h3 h4 => (Below.heap_setCell _ _ _ _ (by rw [hb]; exact h1)).trans (h.far g cs T h1 h2 h3 h4)⟩
theorem Bel.setNd {q : Nat} {cs0 : Array Value} (h : Bel B b w w1) (hp : B ≤ q) (hq : w1.heap[q]? = some (.cells cs0 32 (0, 0))) (i : Nat) (u : Value) : Bel B b w (w1.setCell ⟨q, i, none⟩ u) := ⟨h.lo.setCell (p := ⟨q, i, none⟩) hp u, fun g cs T h1 h2 h3 h4 => by
  have h5 := h.far g cs T h1 h2 h3 h4
  refine (Below.heap_setCell _ _ _ _ (fun e => ?_)).trans h5
  subst e
  rw [hq] at h5
  injection h5 with h5
  injection h5 with _ h5 _
  exact h3 h5.symm⟩
theorem Bel.grownB (hg : w.grownBy w1 (some b)) (hB : B ≤ w.heap.size) (hb : B ≤ b) : Bel B b w w1 := ⟨Below.grown (Below.refl _ _) hg hB (fun k hk => by cases hk; exact hb), fun g _ _ h1 _ _ h4 => (hg.block g (Array.getElem?_eq_some_iff.1 h4).1 (by intro e; injection e with e; exact h1 e)).trans h4⟩
theorem Bel.others (h : Below B w w1) (hk : Lib.OthersKept 5 (some b) w w1) : Bel B b w w1 := ⟨h, fun g _ _ h1 h2 _ h4 => hk g _ h4 (by intro e; injection e with e; exact h1 e) (fun c fz e => by injection e with _ e _; exact h2 e)⟩
theorem Bel.nodes {n : Nat} {v : Value} {xs : List Value} (hg : w.grownBy w1 v.ownBlock) (hB : B ≤ w.heap.size) (ho : w.ownsRow B 32 4 v n xs) : Bel B b w w1 := ⟨Below.grown (Below.refl _ _) hg hB (fun k hk => (ho.lt k hk).1), fun g cs T _ _ h3 h4 => by
  refine (hg.block g (Array.getElem?_eq_some_iff.1 h4).1 (fun e => ?_)).trans h4
  rcases ho.2 with ⟨rfl, _⟩ | ⟨g2, cap, cur, rfl, _, hg2, _⟩
  · cases e
  · have e : g = g2 := by simpa [Value.ownBlock] using e
    subst e
    rw [hg2] at h4
    injection h4 with h4
    injection h4 with _ h4 _
    exact h3 h4.symm⟩
end
/-- the parser lies in b, above B, with what it has told; r is what is left of s -/
structure Ps (B b : Nat) (s : ByteArray) (st : Ppa.St) (r : Ppa.Bs) (w : World) : Prop where
  ex : ∃ A c, Is 54 (preS s (s.size - r.length) (.slice A st.nodes.length c)) (postS st) B b st.text w ∧ w.ownsRow B 32 4 (.slice A st.nodes.length c) st.nodes.length (Wtr.ndsC st.nodes)
  suf : r <:+ s.data.toList
  ev : EvB B w
  le : B ≤ b
  small : s.size ≤ 65536
theorem nodes_ne {w : World} {B b n : Nat} {T : TypeId} {cs : Array Value} {v : Value} {xs : List Value} (hb : w.heap[b]? = some (.cells cs T (0, 0))) (hT : T ≠ 32) (h : w.ownsRow B 32 4 v n xs) : v.ownBlock ≠ some b := by
  rcases h.2 with ⟨rfl, _⟩ | ⟨g, cap, cur, rfl, _, hg, _⟩
  · simp [Value.ownBlock]
  · intro e
    have e : g = b := by simpa [Value.ownBlock] using e
    subst e
    rw [hb] at hg
    injection hg with e
    injection e with e1 e2 e3
    exact hT e2
/-- the parser, cell by cell -/
structure Px (B b : Nat) (s : ByteArray) (st : Ppa.St) (k : Nat) (A : Option Addr) (c : Nat) (p v : Value) (w : World) : Prop where
  known : p = .pointer none ∨ p = .pointer (some ⟨b, 3, none⟩)
  blk : w.heap[b]? = some (.cells #[.string s, .int .i64 (k : Int), .slice A st.nodes.length c, p, v, .int .i64 st.twice, .int .i64 st.deep] 54 (0, 0))
  buf : w.ownsRow B 5 1 v st.text.length (Lib.byteCells st.text)
  nds : w.ownsRow B 32 4 (.slice A st.nodes.length c) st.nodes.length (Wtr.ndsC st.nodes)
section
variable {B b k : Nat} {s : ByteArray} {st : Ppa.St} {r r' : Ppa.Bs} {w w' : World} {A : Option Addr} {c : Nat} {p v : Value}
theorem Px.bufn (h : Px B b s st k A c p v w) : v.ownBlock ≠ some b := own_block_ne h.blk (by decide) h.buf
theorem Px.ndsn (h : Px B b s st k A c p v w) : (Value.slice A st.nodes.length c).ownBlock ≠ some b := nodes_ne h.blk (by decide) h.nds
theorem Px.is (h : Px B b s st k A c p v w) : Is 54 (preS s k (.slice A st.nodes.length c)) (postS st) B b st.text w := by
  have hat : At 54 (preS s k (.slice A st.nodes.length c)) (postS st) B b p st.text w := ⟨v, h.blk, h.buf, h.bufn⟩
  rcases h.known with rfl | rfl
  · exact .inl hat
  · exact .inr hat
theorem Ps.px (h : Ps B b s st r w) : ∃ A c p v, Px B b s st (s.size - r.length) A c p v w := by
  obtain ⟨A, c, hI, hN⟩ := h.ex
  obtain ⟨p, hp, v, hbk, hown, hne⟩ := hI.any
  exact ⟨A, c, p, v, hp, hbk, hown, hN⟩
theorem Px.ps (h : Px B b s st (s.size - r.length) A c p v w) (h1 : r <:+ s.data.toList) (h2 : EvB B w) (h3 : B ≤ b) (h4 : s.size ≤ 65536) : Ps B b s st r w := ⟨⟨A, c, h.is, h.nds⟩, h1, h2, h3, h4⟩
theorem Px.lt (h : Px B b s st k A c p v w) : b < w.heap.size := (Array.getElem?_eq_some_iff.1 h.blk).1
theorem Px.c0 (h : Px B b s st k A c p v w) : w.cell? ⟨b, 0, none⟩ = some (.string s) := by rw [cell_of_row w b _ _ _ _ h.blk]; rfl
theorem Px.c1 (h : Px B b s st k A c p v w) : w.cell? ⟨b, 1, none⟩ = some (.int .i64 (k : Int)) := by rw [cell_of_row w b _ _ _ _ h.blk]; rfl
theorem Px.c2 (h : Px B b s st k A c p v w) : w.cell? ⟨b, 2, none⟩ = some (.slice A st.nodes.length c) := by rw [cell_of_row w b _ _ _ _ h.blk]; rfl
theorem Px.c3 (h : Px B b s st k A c p v w) : w.cell? ⟨b, 3, none⟩ = some p := by rw [cell_of_row w b _ _ _ _ h.blk]; rfl
theorem Px.c4 (h : Px B b s st k A c p v w) : w.cell? ⟨b, 4, none⟩ = some v := by rw [cell_of_row w b _ _ _ _ h.blk]; rfl
theorem Px.c5 (h : Px B b s st k A c p v w) : w.cell? ⟨b, 5, none⟩ = some (.int .i64 st.twice) := by rw [cell_of_row w b _ _ _ _ h.blk]; rfl
theorem Px.c6 (h : Px B b s st k A c p v w) : w.cell? ⟨b, 6, none⟩ = some (.int .i64 st.deep) := by rw [cell_of_row w b _ _ _ _ h.blk]; rfl
theorem Px.unf (h : Px B b s st k A c p v w) (i : Nat) : w.frozen? ⟨b, i, none⟩ = false := Joins.unfrozen_of_block h.blk _
theorem Px.below (h : Px B b s st k A c p v w) (hb : Below w.heap.size w w') : Px B b s st k A c p v w' := ⟨h.known, (hb.block b h.lt).trans h.blk, Flt.own_below h.buf hb, Flt.own_below h.nds hb⟩
theorem Px.put (h : Px B b s st k A c p v w) (k' : Nat) : Px B b s st k' A c p v (w.setCell ⟨b, 1, none⟩ (.int .i64 (k' : Int))) :=
  ⟨h.known, by rw [Joins.block_setCell h.blk]; rfl, Flt.own_other h.buf h.bufn, Flt.own_other h.nds h.ndsn⟩
theorem Px.twice (h : Px B b s st k A c p v w) (z : Int) : Px B b s { st with twice := z } k A c p v (w.setCell ⟨b, 5, none⟩ (.int .i64 z)) :=
  ⟨h.known, by rw [Joins.block_setCell h.blk]; rfl, Flt.own_other h.buf h.bufn, Flt.own_other h.nds h.ndsn⟩
theorem Px.deep (h : Px B b s st k A c p v w) (z : Int) : Px B b s { st with deep := z } k A c p v (w.setCell ⟨b, 6, none⟩ (.int .i64 z)) :=
  ⟨h.known, by rw [Joins.block_setCell h.blk]; rfl, Flt.own_other h.buf h.bufn, Flt.own_other h.nds h.ndsn⟩
theorem Ps.lt (h : Ps B b s st r w) : b < w.heap.size := by obtain ⟨A, c, p, v, hx⟩ := h.px; exact hx.lt
theorem Ps.len (h : Ps B b s st r w) : r.length ≤ s.size := by
  have := h.suf.length_le
  rw [size_len] at this
  exact this
theorem Ps.hB (h : Ps B b s st r w) : B ≤ w.heap.size := h.ev.le
theorem Ps.below (h : Ps B b s st r w) (hb : Below w.heap.size w w') : Ps B b s st r w' := by
  obtain ⟨A, c, p, v, hx⟩ := h.px
  exact (hx.below hb).ps h.suf (h.ev.below (hb.mono h.ev.le)) h.le h.small
theorem Ps.pa (h : Ps B b s st r w) : ∃ x, Pa B b s x r w ∧ ∀ r' w', Pa B b s x r' w' → w.grownBy w' (some b) → Ps B b s st r' w' ∧ Bel B b w w' := by
  obtain ⟨A, c, p, v, hx⟩ := h.px
  refine ⟨[.slice A st.nodes.length c, p, v, .int .i64 st.twice, .int .i64 st.deep], ⟨hx.blk, h.suf, h.ev, h.le, h.small⟩, fun r' w' hP hg => ⟨?_, Bel.grownB hg h.hB h.le⟩⟩
  have hx' : Px B b s st (s.size - r'.length) A c p v w' := ⟨hx.known, hP.row, hx.buf.kept hg (.inr hx.bufn), hx.nds.kept hg (.inr hx.ndsn)⟩
  exact hx'.ps hP.suf hP.ev hP.le hP.small
theorem Ps.grown (h : Ps B b s st r w) (hg : w.grownBy w' (some b)) : Bel B b w w' := Bel.grownB hg h.hB h.le
theorem Ps.at_ (h : Ps B b s st r w) : ∃ k : Nat, k + r.length = s.size ∧ w.cell? ⟨b, 1, none⟩ = some (.int .i64 (k : Int)) := by
  obtain ⟨A, c, p, v, hx⟩ := h.px
  exact ⟨s.size - r.length, by have := h.len; omega, hx.c1⟩
theorem Ps.unf (h : Ps B b s st r w) (i : Nat) : w.frozen? ⟨b, i, none⟩ = false := by obtain ⟨A, c, p, v, hx⟩ := h.px; exact hx.unf i
theorem Ps.c5 (h : Ps B b s st r w) : w.cell? ⟨b, 5, none⟩ = some (.int .i64 st.twice) := by obtain ⟨A, c, p, v, hx⟩ := h.px; exact hx.c5
theorem Ps.c6 (h : Ps B b s st r w) : w.cell? ⟨b, 6, none⟩ = some (.int .i64 st.deep) := by obtain ⟨A, c, p, v, hx⟩ := h.px; exact hx.c6
theorem set_low {B b i : Nat} {w : World} (h : B ≤ b) (u : Value) : Below B w (w.setCell ⟨b, i, none⟩ u) := (Below.refl B w).setCell (p := ⟨b, i, none⟩) h u
theorem Ps.put (h : Ps B b s st r w) (hs : r' <:+ s.data.toList) {z : Int} (hz : z + r'.length = s.size) : Ps B b s st r' (w.setCell ⟨b, 1, none⟩ (.int .i64 z)) := by
  obtain ⟨A, c, p, v, hx⟩ := h.px
  have hl := hs.length_le
  rw [size_len] at hl
  obtain rfl : z = ((s.size - r'.length : Nat) : Int) := by omega
  exact (hx.put (s.size - r'.length)).ps hs (h.ev.below (set_low h.le _)) h.le h.small
theorem Ps.twice (h : Ps B b s st r w) (z : Int) : Ps B b s { st with twice := z } r (w.setCell ⟨b, 5, none⟩ (.int .i64 z)) := by
  obtain ⟨A, c, p, v, hx⟩ := h.px
  exact (hx.twice z).ps h.suf (h.ev.below (set_low h.le _)) h.le h.small
theorem Ps.deep (h : Ps B b s st r w) (z : Int) : Ps B b s { st with deep := z } r (w.setCell ⟨b, 6, none⟩ (.int .i64 z)) := by
  obtain ⟨A, c, p, v, hx⟩ := h.px
  exact (hx.deep z).ps h.suf (h.ev.below (set_low h.le _)) h.le h.small
/-- what turns nothing below B0 leaves all that lies below it -/
theorem Ps.suf_tail {x : UInt8} {t : Ppa.Bs} (h : Ps B b s st (x :: t) w) : t <:+ s.data.toList := (List.suffix_cons _ _).trans h.suf
end
/-- how a structural way of reading ends -/
def WaysS (B b : Nat) (s : ByteArray) (w : World) (v : Value) (o : Except Ppa.Bs (Ppa.Bs × Ppa.St)) (e : Ending) (w' : World) : Prop :=
  Bel B b w w' ∧ match o with
    | .ok (r, st) => e = .returned v ∧ Ps B b s st r w'
    | .error r => Gone (s.size - r.length) e ∧ r.length ≤ s.size
section
variable {B b f : Nat} {s : ByteArray} {st : Ppa.St} {r r' : Ppa.Bs} {w : World} {args : Array Value}
theorem Ps.lex_ok {α : Type} {val : α → Value} {o : Except Ppa.Bs (α × Ppa.Bs)} {v : α} (h : Ps B b s st r w) (hc : ∀ x, Pa B b s x r w → Calls Tryz.prog f args w fun e w' => WaysV B b s x w val o e w') (ho : o = .ok (v, r')) :
    Calls Tryz.prog f args w fun e w' => e = .returned (val v) ∧ Ps B b s st r' w' ∧ Bel B b w w' := by
  obtain ⟨x, hP, back⟩ := h.pa
  exact (ways_ok (hc x hP) ho).mono fun e w' ⟨he, hp, hg⟩ => ⟨he, back _ _ hp hg⟩
theorem Ps.lex_no {α : Type} {val : α → Value} {o : Except Ppa.Bs (α × Ppa.Bs)} (h : Ps B b s st r w) (hc : ∀ x, Pa B b s x r w → Calls Tryz.prog f args w fun e w' => WaysV B b s x w val o e w') (ho : o = .error r') :
    Calls Tryz.prog f args w fun e w' => Gone (s.size - r'.length) e ∧ r'.length ≤ s.size ∧ Bel B b w w' := by
  obtain ⟨x, hP, back⟩ := h.pa
  exact (ways_no (hc x hP) ho).mono fun e w' ⟨he, hl, hg⟩ => ⟨he, hl, h.grown hg⟩
theorem Ps.way_ok {v : Value} {o : Except Ppa.Bs Ppa.Bs} (h : Ps B b s st r w) (hc : ∀ x, Pa B b s x r w → Calls Tryz.prog f args w fun e w' => Ways B b s x w v o e w') (ho : o = .ok r') :
    Calls Tryz.prog f args w fun e w' => e = .returned v ∧ Ps B b s st r' w' ∧ Bel B b w w' := by
  obtain ⟨x, hP, back⟩ := h.pa
  subst ho
  exact (hc x hP).mono fun e w' ⟨hg, he, hp⟩ => ⟨he, back _ _ hp hg⟩
theorem Ps.way_no {v : Value} {o : Except Ppa.Bs Ppa.Bs} (h : Ps B b s st r w) (hc : ∀ x, Pa B b s x r w → Calls Tryz.prog f args w fun e w' => Ways B b s x w v o e w') (ho : o = .error r') :
    Calls Tryz.prog f args w fun e w' => Gone (s.size - r'.length) e ∧ r'.length ≤ s.size ∧ Bel B b w w' := by
  obtain ⟨x, hP, back⟩ := h.pa
  subst ho
  exact (hc x hP).mono fun e w' ⟨hg, he, hl⟩ => ⟨he, hl, h.grown hg⟩
end
section
variable {B b : Nat} {s : ByteArray} {st : Ppa.St} {r t : Ppa.Bs} {w : World}
theorem peek_s (h : Ps B b s st r w) : Calls Tryz.prog 67 #[.pointer (some ⟨b, 0, none⟩)] w fun e w' => e = .returned (.int .i32 (Ppa.peek r)) ∧ Ps B b s st r w' ∧ Below w.heap.size w w' := by
  obtain ⟨x, hP, _⟩ := h.pa
  exact (peek_r hP).mono fun e w' ⟨he, hb⟩ => ⟨he, h.below hb, hb⟩
theorem blank_s (h : Ps B b s st r w) : Calls Tryz.prog 84 #[.pointer (some ⟨b, 0, none⟩)] w fun e w' => e = .returned (.bool (blankH r)) ∧ Ps B b s st r w' ∧ Below w.heap.size w w' := by
  obtain ⟨x, hP, _⟩ := h.pa
  exact (blank_r hP).mono fun e w' ⟨he, hb⟩ => ⟨he, h.below hb, hb⟩
theorem no_s (h : Ps B b s st r w) : Calls Tryz.prog 61 #[.pointer (some ⟨b, 0, none⟩)] w fun e w' => Gone (s.size - r.length) e ∧ w' = w := by
  obtain ⟨x, hP, _⟩ := h.pa
  exact no_r hP
theorem next_s (h : Ps B b s st r w) (hne : r ≠ []) : Calls Tryz.prog 72 #[.pointer (some ⟨b, 0, none⟩)] w fun e w' => e = .returned (.int .i32 (Ppa.peek r)) ∧ Ps B b s st (Ppa.skip r) w' ∧ Bel B b w w' := by
  obtain ⟨x, hP, back⟩ := h.pa
  exact (next_r hP hne).mono fun e w' ⟨he, hp, hg⟩ => ⟨he, back _ _ hp hg⟩
theorem blanks_s (h : Ps B b s st r w) : Calls Tryz.prog 56 #[.pointer (some ⟨b, 0, none⟩)] w fun e w' => e = .returned (.tuple #[]) ∧ Ps B b s st (Ppa.blanksL r) w' ∧ Bel B b w w' := by
  obtain ⟨x, hP, back⟩ := h.pa
  exact (blanks_r hP).mono fun e w' ⟨he, hp, hg⟩ => ⟨he, back _ _ hp hg⟩
/-- may: the character stands there -/
theorem may_yes (c : UInt8) (hc : c.toNat < 128) (h : Ps B b s st (c :: t) w) : Calls Tryz.prog 58 #[.pointer (some ⟨b, 0, none⟩), .int .i32 (c.toNat : Int)] w fun e w' => e = .returned (.bool true) ∧ Ps B b s st t w' ∧ Bel B b w w' := by
  obtain ⟨x, hP, back⟩ := h.pa
  have hp : Ppa.peek (c :: t) = (c.toNat : Int) := peek_low c t hc
  have h1 := may_r (c.toNat : Int) (by omega) hP
  rw [if_pos hp, decide_eq_true hp, skip_low c t hc] at h1
  exact h1.mono fun e w' ⟨he, hp, hg⟩ => ⟨he, back _ _ hp hg⟩
/-- may: it does not -/
theorem may_not (c : UInt8) (hc : c.toNat < 128) (hn : r.head? ≠ some c) (h : Ps B b s st r w) : Calls Tryz.prog 58 #[.pointer (some ⟨b, 0, none⟩), .int .i32 (c.toNat : Int)] w fun e w' => e = .returned (.bool false) ∧ Ps B b s st r w' ∧ Bel B b w w' := by
  obtain ⟨x, hP, back⟩ := h.pa
  have hp : ¬ Ppa.peek r = (c.toNat : Int) := fun e => hn ((peek_is c hc r).1 e)
  have h1 := may_r (c.toNat : Int) (by omega) hP
  rw [if_neg hp, decide_eq_false hp] at h1
  exact h1.mono fun e w' ⟨he, hp, hg⟩ => ⟨he, back _ _ hp hg⟩
theorem must_s_ok (l : List UInt8) (hl : l.all (fun c => decide (c.toNat < 128)) = true) (h : Ps B b s st r w) (hm : Ppa.mustL l r = .ok t) :
    Calls Tryz.prog 57 #[.pointer (some ⟨b, 0, none⟩), .string ⟨l.toArray⟩] w fun e w' => e = .returned (.tuple #[]) ∧ Ps B b s st t w' ∧ Bel B b w w' := by
  obtain ⟨x, hP, back⟩ := h.pa
  exact (must_ok l hl hP hm).mono fun e w' ⟨he, hp, hg⟩ => ⟨he, back _ _ hp hg⟩
theorem must_s_no (l : List UInt8) (hl : l.all (fun c => decide (c.toNat < 128)) = true) (h : Ps B b s st r w) (hm : Ppa.mustL l r = .error t) :
    Calls Tryz.prog 57 #[.pointer (some ⟨b, 0, none⟩), .string ⟨l.toArray⟩] w fun e w' => Gone (s.size - t.length) e ∧ t.length ≤ s.size ∧ Bel B b w w' := by
  obtain ⟨x, hP, _⟩ := h.pa
  exact (must_no l hl hP hm).mono fun e w' ⟨he, hl, hg⟩ => ⟨he, hl, h.grown hg⟩
theorem name_s_ok {nm : Ppa.Bs} (h : Ps B b s st r w) (hm : Ppa.nameM r = .ok (nm, t)) :
    Calls Tryz.prog 85 #[.pointer (some ⟨b, 0, none⟩)] w fun e w' => e = .returned (.string ⟨nm.toArray⟩) ∧ Ps B b s st t w' ∧ Bel B b w w' := h.lex_ok (val := strV) (fun _ hP => name_r hP) hm
theorem name_s_no (h : Ps B b s st r w) (hm : Ppa.nameM r = .error t) :
    Calls Tryz.prog 85 #[.pointer (some ⟨b, 0, none⟩)] w fun e w' => Gone (s.size - t.length) e ∧ t.length ≤ s.size ∧ Bel B b w w' := h.lex_no (val := strV) (fun _ hP => name_r hP) hm
theorem until_s_ok {v : Ppa.Bs} (l : List UInt8) (h0 : 0 < l.length) (h1 : l.length ≤ 100) (h : Ps B b s st r w) (hm : Ppa.untilR l r = .ok (v, t)) :
    Calls Tryz.prog 86 #[.pointer (some ⟨b, 0, none⟩), .string ⟨l.toArray⟩] w fun e w' => e = .returned (.string ⟨v.toArray⟩) ∧ Ps B b s st t w' ∧ Bel B b w w' :=
  h.lex_ok (val := strV) (fun _ hP => until_r ⟨l.toArray⟩ (by rw [Lib.size_mk]; exact h0) (by rw [Lib.size_mk]; exact h1) hP) hm
theorem until_s_no (l : List UInt8) (h0 : 0 < l.length) (h1 : l.length ≤ 100) (h : Ps B b s st r w) (hm : Ppa.untilR l r = .error t) :
    Calls Tryz.prog 86 #[.pointer (some ⟨b, 0, none⟩), .string ⟨l.toArray⟩] w fun e w' => Gone (s.size - t.length) e ∧ t.length ≤ s.size ∧ Bel B b w w' :=
  h.lex_no (val := strV) (fun _ hP => until_r ⟨l.toArray⟩ (by rw [Lib.size_mk]; exact h0) (by rw [Lib.size_mk]; exact h1) hP) hm
theorem ref_s_ok {n : Nat} (h : Ps B b s st r w) (hm : Ppa.refM r = .ok (n, t)) :
    Calls Tryz.prog 71 #[.pointer (some ⟨b, 0, none⟩)] w fun e w' => e = .returned (.int .i32 (n : Int)) ∧ Ps B b s st t w' ∧ Bel B b w w' := h.lex_ok (val := numV) (fun _ hP => reference_r hP) hm
theorem ref_s_no (h : Ps B b s st r w) (hm : Ppa.refM r = .error t) :
    Calls Tryz.prog 71 #[.pointer (some ⟨b, 0, none⟩)] w fun e w' => Gone (s.size - t.length) e ∧ t.length ≤ s.size ∧ Bel B b w w' := h.lex_no (val := numV) (fun _ hP => reference_r hP) hm
theorem value_s_ok {v : Ppa.Bs} (h : Ps B b s st r w) (ht : Pch.textsL r = true) (hm : Ppa.valM r = .ok (v, t)) :
    Calls Tryz.prog 115 #[.pointer (some ⟨b, 0, none⟩)] w fun e w' => e = .returned (.string ⟨v.toArray⟩) ∧ Ps B b s st t w' ∧ Bel B b w w' := h.lex_ok (val := strV) (fun _ hP => value_r hP ht) hm
theorem value_s_no (h : Ps B b s st r w) (ht : Pch.textsL r = true) (hm : Ppa.valM r = .error t) :
    Calls Tryz.prog 115 #[.pointer (some ⟨b, 0, none⟩)] w fun e w' => Gone (s.size - t.length) e ∧ t.length ≤ s.size ∧ Bel B b w w' := h.lex_no (val := strV) (fun _ hP => value_r hP ht) hm
end
end Go.Proofs.YtemfmidhekdekaaGreatDoor.Wps
namespace Go.Proofs.YtemfmidhekdekaaGreatDoor.Wps
open Go Go.RowKit Go.Proofs.YtemfmidhekdekaaGreatDoor.Kb Go.Proofs.YtemfmidhekdekaaGreatDoor.Wch Go.Proofs.YtemfmidhekdekaaGreatDoor.Emk

/-- a node is put behind a row of nodes of the call's own, at a step of a region that draws its order -/
theorem step_append_nd {ops : Array Oper} {o : Oper} {a : Act} {w : World} {K : Act → World → Prop} {Q : Exit → Act → World → Prop} {E : Prop} (hgd : o.guard = none) (s x : Operand)
    (ho : o.op = .call { callee := .builtin .append, args := #[s, x], argTypes := #[23, 23] }) (base : Nat) (v : Value) (n : Nat) (l : List Ptr.Nd) (hs : a.eval s = v) (hown : w.ownsRow base 32 4 v n (Wtr.ndsC l)) (g : Nat) (y : Ptr.Nd)
    (hx : a.eval x = .slice (some ⟨g, 0, none⟩) 1 1) (hg : ∀ (j : Nat) u, (Wtr.ndC y)[j]? = some u → w.cell? ((⟨g, 0, none⟩ : Addr).add j) = some u) (hn : n ≤ 1000000) (hbase : base ≤ w.heap.size)
    (h : ∀ v' w', w'.ownsRow base 32 4 v' (n + 1) (Wtr.ndsC (l ++ [y])) → w.grownBy w' v.ownBlock → K (a.put o.dst v') w') : if Region.wanted o (yielded ops a.tmps) = true then Oper.wp Tryz.prog o a w K Q else E := by
  have hw : Region.wanted o (yielded ops a.tmps) = true := by simp [Region.wanted, hgd]
  rw [if_pos hw]
  obtain ⟨i0, hi, hz0, hz1, hz2⟩ := info_parts Wtr.infoN
  refine wp_append_own w s x _ ho base _ i0 (.agg #[.int .u8 0, .string ⟨#[]⟩, .string ⟨#[]⟩, .int .i64 0]) 4 48 Tryz.underlying23 hi hz0 hz1 hz2 rfl (by decide) v n _ hs hown ⟨g, 0, none⟩ 1 1 (Wtr.ndC y) hx rfl hg (fun u hu => Wtr.ndsC_one [y] u (by simpa [Wtr.ndsC] using hu)) (by unfold maxLen; omega) (by omega) hbase (fun v' w' h1 h2 _ => h v' w' ?_ h2)
  rw [Wtr.ndsC_append, show Wtr.ndsC [y] = Wtr.ndC y by simp [Wtr.ndsC]]
  exact h1
set_option maxRecDepth 100000 in
/-- Reset of a builder within a struct -/
theorem reset_any {T : TypeId} {pre post : List Value} {b : Nat} {w : World} (h : Emk.Left T pre post b w) :
    Calls Tryz.prog 95 #[.pointer (some ⟨b, pre.length, none⟩)] w fun e w' => e = .returned (.tuple #[]) ∧ w' = (w.setCell ⟨b, pre.length, none⟩ (.pointer none)).setCell ⟨b, pre.length + 1, none⟩ (.slice none 0 0) := by
  obtain ⟨p, v, hbk⟩ := h
  have c0 : w.cell? ⟨b, pre.length, none⟩ = some p := by rw [cell_of_row w b _ _ _ _ hbk]; simp
  have f0 : w.frozen? ⟨b, pre.length, none⟩ = false := Joins.unfrozen_of_block hbk _
  have hb2 : (w.setCell ⟨b, pre.length, none⟩ (.pointer none)).heap[b]? = some (.cells (pre ++ .pointer none :: v :: post).toArray T (0, 0)) := by rw [Joins.block_setCell hbk, set_first]
  have c1 : (w.setCell ⟨b, pre.length, none⟩ (.pointer none)).cell? ⟨b, pre.length + 1, none⟩ = some v := by rw [cell_of_row _ b _ _ _ _ hb2]; simp
  have f1 : (w.setCell ⟨b, pre.length, none⟩ (.pointer none)).frozen? ⟨b, pre.length + 1, none⟩ = false := Joins.unfrozen_of_block hb2 _
  clear hbk hb2
  go_enter Tryz.func95, Tryz.ntmps95
  go_wp2
  go_end0
  exact ⟨rfl, rfl⟩
theorem flush_none {st : Ppa.St} (p : Int) (h : st.text = []) : Ppa.flush st p = st := by unfold Ppa.flush; rw [if_pos h]
theorem flush_some {st : Ppa.St} (p : Int) (h : ¬ st.text = []) : Ppa.flush st p = { st with nodes := st.nodes ++ [(4, [], st.text, p)], text := [] } := by unfold Ppa.flush; rw [if_neg h]
theorem px_left {B b k : Nat} {s : ByteArray} {st : Ppa.St} {w : World} {A : Option Addr} {c : Nat} {p v : Value} (h : Px B b s st k A c p v w) : Emk.Left 54 (preS s k (.slice A st.nodes.length c)) (postS st) b w := ⟨p, v, h.blk⟩
/-- the nodes' row keeps while the builder's own block and rows of bytes turn -/
theorem nds_kept {B n : Nat} {w w' : World} {v : Value} {xs : List Value} {b : Nat} (h : w.ownsRow B 32 4 v n xs) (hn : v.ownBlock ≠ some b) (hk : Lib.OthersKept 5 (some b) w w') : w'.ownsRow B 32 4 v n xs := by
  refine ⟨h.1, ?_⟩
  rcases h.2 with h0 | ⟨g, cap, cur, rfl, hb, hg, h1, h2, h3, h4⟩
  · exact .inl h0
  · refine .inr ⟨g, cap, cur, rfl, hb, hk g _ hg (fun e => hn (by rw [← e]; rfl)) (fun c fz e => ?_), h1, h2, h3, h4⟩
    injection e with _ e _
    exact absurd e (by decide)
/-- a node more: the slice is stored into the parser -/
theorem left_push {b k : Nat} {s : ByteArray} {nv nv' : Value} {post : List Value} {w w' : World} (h : Emk.Left 54 (preS s k nv) post b w) (hg : w.grownBy w' nv.ownBlock) (hn : nv.ownBlock ≠ some b) (hlt : b < w.heap.size) :
    Emk.Left 54 (preS s k nv') post b (w'.setCell ⟨b, 2, none⟩ nv') ∧ w'.cell? ⟨b, 2, none⟩ = some nv ∧ w'.frozen? ⟨b, 2, none⟩ = false := by
  obtain ⟨p, v, hb⟩ := h
  have hb2 := (hg.block b hlt (fun e => hn e.symm)).trans hb
  refine ⟨⟨p, v, ?_⟩, ?_, Joins.unfrozen_of_block hb2 _⟩
  · rw [Joins.block_setCell hb2]
    rfl
  · rw [cell_of_row w' b _ _ _ _ hb2]
    rfl
theorem left_cell {b k : Nat} {s : ByteArray} {nv : Value} {post : List Value} {w : World} (h : Emk.Left 54 (preS s k nv) post b w) : w.cell? ⟨b, 2, none⟩ = some nv := by
  obtain ⟨p, v, hb⟩ := h
  rw [cell_of_row w b _ _ _ _ hb]
  rfl
theorem left_below {T : TypeId} {pre post : List Value} {b : Nat} {w w' : World} (h : Emk.Left T pre post b w) (hb : Below w.heap.size w w') : Emk.Left T pre post b w' := by
  obtain ⟨p, v, h1⟩ := h
  exact ⟨p, v, (hb.block b (Array.getElem?_eq_some_iff.1 h1).1).trans h1⟩
theorem left_reset {B b k : Nat} {s : ByteArray} {st : Ppa.St} {A : Option Addr} {c : Nat} {w : World} (h : Emk.Left 54 (preS s k (.slice A st.nodes.length c)) (postS st) b w) (ht : st.text = []) (hN : w.ownsRow B 32 4 (.slice A st.nodes.length c) st.nodes.length (Wtr.ndsC st.nodes)) :
    Px B b s st k A c (.pointer none) (.slice none 0 0) ((w.setCell ⟨b, 3, none⟩ (.pointer none)).setCell ⟨b, 4, none⟩ (.slice none 0 0)) := by
  obtain ⟨p, v, hb⟩ := h
  have hne := nodes_ne hb (by decide) hN
  have h1 : (w.setCell ⟨b, 3, none⟩ (.pointer none)).heap[b]? = some (.cells #[.string s, .int .i64 (k : Int), .slice A st.nodes.length c, .pointer none, v, .int .i64 st.twice, .int .i64 st.deep] 54 (0, 0)) := by
    rw [Joins.block_setCell hb]
    rfl
  refine ⟨.inl rfl, ?_, ?_, Flt.own_other (Flt.own_other hN hne) hne⟩
  · rw [Joins.block_setCell h1]
    rfl
  · rw [ht]
    exact World.ownsRow_nil _ _ _ _
theorem flush_done {B b : Nat} {s : ByteArray} {st : Ppa.St} {r : Ppa.Bs} {w w7 : World} {A7 : Option Addr} {c7 : Nat} {y : Ptr.Nd} (h : Ps B b s st r w) (hl : Emk.Left 54 (preS s (s.size - r.length) (.slice A7 (st.nodes.length + 1) c7)) (postS st) b (w7.setCell ⟨b, 2, none⟩ (.slice A7 (st.nodes.length + 1) c7)))
    (ho : w7.ownsRow B 32 4 (.slice A7 (st.nodes.length + 1) c7) (st.nodes.length + 1) (Wtr.ndsC (st.nodes ++ [y]))) (hb : Below B w (w7.setCell ⟨b, 2, none⟩ (.slice A7 (st.nodes.length + 1) c7))) :
    Ps B b s { st with nodes := st.nodes ++ [y], text := [] } r (((w7.setCell ⟨b, 2, none⟩ (.slice A7 (st.nodes.length + 1) c7)).setCell ⟨b, 3, none⟩ (.pointer none)).setCell ⟨b, 4, none⟩ (.slice none 0 0)) := by
  have hne : (Value.slice A7 (st.nodes.length + 1) c7).ownBlock ≠ some b := by
    obtain ⟨p, v, h1⟩ := hl
    intro e
    obtain ⟨g, rfl⟩ : ∃ g, A7 = some g := by cases A7 with | none => cases e | some g => exact ⟨g, rfl⟩
    rcases ho.2 with ⟨h0, _⟩ | ⟨g', cap, cur, hv, _, hg, _⟩
    · cases h0
    · injection hv with hA _ _
      injection hA with hA
      subst hA
      have e : g' = b := by simpa [Value.ownBlock] using e
      subst e
      rw [Joins.block_setCell hg] at h1
      injection h1 with h1
      injection h1 with _ h1 _
      exact absurd h1 (by decide)
  have hlen : (st.nodes ++ [y]).length = st.nodes.length + 1 := by simp
  have hX : Px B b s { st with nodes := st.nodes ++ [y], text := [] } (s.size - r.length) A7 c7 (.pointer none) (.slice none 0 0) (((w7.setCell ⟨b, 2, none⟩ (.slice A7 (st.nodes.length + 1) c7)).setCell ⟨b, 3, none⟩ (.pointer none)).setCell ⟨b, 4, none⟩ (.slice none 0 0)) := by
    have ho2 := Flt.own_other (i := 2) (u := .slice A7 (st.nodes.length + 1) c7) ho hne
    rw [← hlen] at ho2 hl
    have h3 := left_reset (st := { st with nodes := st.nodes ++ [y], text := [] }) hl rfl ho2
    rw [hlen] at h3
    exact h3
  exact hX.ps h.suf (h.ev.below ((hb.setCell (p := ⟨b, 3, none⟩) h.le _).setCell (p := ⟨b, 4, none⟩) h.le _)) h.le h.small
/-- a block of nodes that is neither the parser's nor its row's -/
def NdKept (b : Nat) (nv : Value) (w w' : World) : Prop := ∀ (g : Nat) (o : Array Value), g ≠ b → w.heap[g]? = some (.cells o 32 (0, 0)) → nv.ownBlock ≠ some g → w'.heap[g]? = some (.cells o 32 (0, 0))
theorem nd_after {b g : Nat} {nv u2 u3 u4 : Value} {w w3 w7 : World} {ob : Obj} {o : Array Value} (hk : Lib.OthersKept 5 (some b) w w3) (hg7 : (w3.alloc ob).grownBy w7 nv.ownBlock) (hgb : g ≠ b) (hg : w.heap[g]? = some (.cells o 32 (0, 0))) (hn : nv.ownBlock ≠ some g) :
    (((w7.setCell ⟨b, 2, none⟩ u2).setCell ⟨b, 3, none⟩ u3).setCell ⟨b, 4, none⟩ u4).heap[g]? = some (.cells o 32 (0, 0)) := by
  have h3 := hk g _ hg (fun e => hgb (by injection e)) (fun c fz e => by injection e with _ e _; exact absurd e (by decide))
  have hl3 : g < w3.heap.size := (Array.getElem?_eq_some_iff.1 h3).1
  rw [Below.heap_setCell _ _ _ _ hgb, Below.heap_setCell _ _ _ _ hgb, Below.heap_setCell _ _ _ _ hgb, hg7.block g (by simp; omega) (fun e => hn e.symm), Lib.alloc_old w3 _ g hl3]
  exact h3
set_option maxRecDepth 100000 in
set_option maxHeartbeats 2000000 in
/-- flush; a block of nodes that is none of the parser's stays -/
theorem flush_x {B b : Nat} {s : ByteArray} {st : Ppa.St} {r : Ppa.Bs} {w : World} {A : Option Addr} {c : Nat} {q v : Value} (p : Int) (h : Ps B b s st r w) (X : Px B b s st (s.size - r.length) A c q v w) (h1 : st.nodes.length ≤ 1000000) (h2 : st.text.length ≤ 1000000) :
    Calls Tryz.prog 68 #[.pointer (some ⟨b, 0, none⟩), .int .i64 p] w fun e w' => e = .returned (.tuple #[]) ∧ Ps B b s (Ppa.flush st p) r w' ∧ Bel B b w w' ∧ NdKept b (.slice A st.nodes.length c) w w' := by
  have hlen := len_any X.is
  by_cases h0 : st.text = []
  · rw [flush_none p h0]
    have hz : (st.text.length : Int) = 0 := by rw [h0]; rfl
    rw [hz] at hlen
    have CL := Kept.mk hlen
    clear hlen hz h0 X
    go_enter Tryz.func68, Tryz.ntmps68
    go_wp2_with (go_at_call 94; refine CL.out.mono ?_; rintro e w1 ⟨rfl, rfl⟩)
    go_end0
    exact ⟨rfl, h, Bel.refl _ _ _, fun _ _ _ h _ => h⟩
  · rw [flush_some p h0]
    have hpos := List.length_pos_iff.2 h0
    have CL := Kept.mk hlen
    have CS := Kept.mk (string_any h.le (w := w.drew) X.is)
    have hb := X.lt
    have hBs : B ≤ w.heap.size := h.hB
    have hnn := X.ndsn
    have d2 : w.drew.cell? ⟨b, 2, none⟩ = some (.slice A st.nodes.length c) := X.c2
    have HN := Kept.mk X.nds
    have HL := Kept.mk (px_left X)
    have i0 : (0 : Int) < (st.text.length : Int) := by omega
    have HH := Kept.mk h
    clear hlen h0 X h
    go_enter Tryz.func68, Tryz.ntmps68
    go_wp2_with (go_at_call 94; refine CL.out.mono ?_; rintro e w1 ⟨rfl, rfl⟩)
    go_region_law (first
      | (go_simp; go_at_call 30; refine CS.out.mono ?_; rintro e w3 ⟨rfl, hl3, hb3, hk3⟩; have d3 := left_cell hl3; have HB3 := Kept.mk (((Bel.refl B b w1).drew).trans (Bel.others hb3 hk3)); have HO3 := Kept.mk (nds_kept HN.out hnn hk3); have HL3 := Kept.mk hl3; have HK3 := Kept.mk hk3; have hz3 : w1.heap.size ≤ w3.heap.size := hb3.size; have hb9 : b < w3.heap.size := (by omega); clear hl3 hb3 hk3)
      | (refine step_append_nd rfl (.tmp 13) (.tmp 20) rfl B (.slice A st.nodes.length c) st.nodes.length st.nodes (by rfl) (Flt.own_below HO3.out ((Below.refl _ w3).alloc (Nat.le_refl _) (.cells #[.int .u8 4, .string ⟨#[]⟩, .string ⟨st.text.toArray⟩, .int .i64 p] 32))) w3.heap.size (4, [], st.text, p) (by rfl) (World.news_of_block (heap_alloc_new _ _)) (by omega) (by simp; omega) ?_; intro v7 w7 ho7 hg7; obtain ⟨A7, c7, rfl, _⟩ := Flt.own_slice ho7; obtain ⟨hl7, e2, f2⟩ := left_push (nv' := .slice A7 (st.nodes.length + 1) c7) (left_below HL3.out ((Below.refl _ w3).alloc (Nat.le_refl _) (.cells #[.int .u8 4, .string ⟨#[]⟩, .string ⟨st.text.toArray⟩, .int .i64 p] 32))) hg7 hnn (by simp; omega); have HL7 := Kept.mk hl7; have HO7 := Kept.mk ho7; have HG7 := Kept.mk hg7; have HB7 := Kept.mk ((HB3.out.alloc (Nat.le_trans hBs hz3) (.cells #[.int .u8 4, .string ⟨#[]⟩, .string ⟨st.text.toArray⟩, .int .i64 p] 32)).trans (Bel.nodes hg7 (by simp; omega) (Flt.own_below HO3.out ((Below.refl _ w3).alloc (Nat.le_refl _) (.cells #[.int .u8 4, .string ⟨#[]⟩, .string ⟨st.text.toArray⟩, .int .i64 p] 32))))); clear hl7 ho7 hg7))
    all_goals
      go_wp2_with (go_at_call 95; refine (reset_any HL7.out).mono ?_; rintro e w8 ⟨rfl, rfl⟩)
      go_end0
      have H7 := flush_done HH.out HL7.out HO7.out
      exact ⟨rfl, H7 (HB7.out.setCell (p := ⟨b, 2, none⟩) HH.out.le _).lo, (((HB7.out.setCell (p := ⟨b, 2, none⟩) HH.out.le _).setCell (p := ⟨b, 3, none⟩) HH.out.le _).setCell (p := ⟨b, 4, none⟩) HH.out.le _), fun g o hgb hg hn => nd_after HK3.out HG7.out hgb hg hn⟩
theorem flush_s {B b : Nat} {s : ByteArray} {st : Ppa.St} {r : Ppa.Bs} {w : World} (p : Int) (h : Ps B b s st r w) (h1 : st.nodes.length ≤ 1000000) (h2 : st.text.length ≤ 1000000) :
    Calls Tryz.prog 68 #[.pointer (some ⟨b, 0, none⟩), .int .i64 p] w fun e w' => e = .returned (.tuple #[]) ∧ Ps B b s (Ppa.flush st p) r w' ∧ Bel B b w w' := by
  obtain ⟨A, c, q, v, X⟩ := h.px
  exact (flush_x p h X h1 h2).mono fun e w' ⟨he, hp, hb, _⟩ => ⟨he, hp, hb⟩
end Go.Proofs.YtemfmidhekdekaaGreatDoor.Wps
namespace Go.Proofs.YtemfmidhekdekaaGreatDoor.Wps
open Go Go.RowKit Go.Proofs.YtemfmidhekdekaaGreatDoor.Kb Go.Proofs.YtemfmidhekdekaaGreatDoor.Wch Go.Proofs.YtemfmidhekdekaaGreatDoor.Emk

def ndV (k : Int) (nm vl : Ppa.Bs) (p : Int) : Value := .agg #[.int .u8 k, .string ⟨nm.toArray⟩, .string ⟨vl.toArray⟩, .int .i64 p]
theorem own_ne_cells {w : World} {B n b : Nat} {nv : Value} {xs : List Value} {cs : Array Value} {T : TypeId} (hT : T ≠ 32) (ho : w.ownsRow B 32 4 nv n xs) (hb : w.heap[b]? = some (.cells cs T (0, 0))) : nv.ownBlock ≠ some b := nodes_ne hb hT ho
/-- a node more -/
theorem push_done {B b g : Nat} {s : ByteArray} {st : Ppa.St} {r : Ppa.Bs} {w w7 : World} {A A7 : Option Addr} {c c7 : Nat} {q v : Value} {y : Ptr.Nd} (h : Ps B b s st r w) (X : Px B b s st (s.size - r.length) A c q v w) (hg : w.grownBy w7 (Value.slice A st.nodes.length c).ownBlock)
    (ho : w7.ownsRow B 32 4 (.slice A7 (st.nodes.length + 1) c7) (st.nodes.length + 1) (Wtr.ndsC (st.nodes ++ [y]))) (hgv : v.ownBlock = none ∨ (v.ownBlock = some g ∧ (Value.slice A st.nodes.length c).ownBlock ≠ some g)) :
    Ps B b s { st with nodes := st.nodes ++ [y] } r (w7.setCell ⟨b, 2, none⟩ (.slice A7 (st.nodes.length + 1) c7)) := by
  have hb7 := (hg.block b X.lt (fun e => X.ndsn e.symm)).trans X.blk
  have hne := nodes_ne hb7 (by decide) ho
  have hbuf : w7.ownsRow B 5 1 v st.text.length (Lib.byteCells st.text) := X.buf.kept hg (by
    rcases hgv with e | ⟨e, e2⟩
    · exact .inl e
    · exact .inr (by rw [e]; exact fun e3 => e2 e3.symm))
  have hlen : (st.nodes ++ [y]).length = st.nodes.length + 1 := by simp
  have hX : Px B b s { st with nodes := st.nodes ++ [y] } (s.size - r.length) A7 c7 q v (w7.setCell ⟨b, 2, none⟩ (.slice A7 (st.nodes.length + 1) c7)) := by
    refine ⟨X.known, ?_, Flt.own_other hbuf (own_block_ne hb7 (by decide) hbuf), ?_⟩
    · rw [Joins.block_setCell hb7]
      show _ = some (Obj.cells #[.string s, .int .i64 _, .slice A7 (st.nodes ++ [y]).length c7, q, v, _, _] _ _)
      rw [hlen]
      rfl
    · show World.ownsRow _ B _ 4 (.slice A7 (st.nodes ++ [y]).length c7) (st.nodes ++ [y]).length _
      rw [hlen]
      exact Flt.own_other ho hne
  refine hX.ps h.suf (h.ev.below ((Below.grown (Below.refl B w) hg h.hB (fun k hk => (X.nds.lt k hk).1)).setCell (p := ⟨b, 2, none⟩) h.le _)) h.le h.small
/-- the two rows lie apart -/
theorem Px.apart {B b k : Nat} {s : ByteArray} {st : Ppa.St} {w : World} {A : Option Addr} {c : Nat} {p v : Value} (h : Px B b s st k A c p v w) : v.ownBlock = none ∨ ∃ g, v.ownBlock = some g ∧ (Value.slice A st.nodes.length c).ownBlock ≠ some g := by
  cases hv : v.ownBlock with
  | none => exact .inl rfl
  | some g =>
    refine .inr ⟨g, rfl, ?_⟩
    rcases h.buf.2 with ⟨rfl, _⟩ | ⟨g2, cap, cur, rfl, _, hg, _⟩
    · cases hv
    · have e : g2 = g := by simpa [Value.ownBlock] using hv
      subst e
      exact nodes_ne hg (by decide) h.nds
theorem pushed {B b : Nat} {s : ByteArray} {st : Ppa.St} {r : Ppa.Bs} {w w7 : World} {A A7 : Option Addr} {c c7 : Nat} {q v : Value} {y : Ptr.Nd} (h : Ps B b s st r w) (X : Px B b s st (s.size - r.length) A c q v w) (hg : w.grownBy w7 (Value.slice A st.nodes.length c).ownBlock)
    (ho : w7.ownsRow B 32 4 (.slice A7 (st.nodes.length + 1) c7) (st.nodes.length + 1) (Wtr.ndsC (st.nodes ++ [y]))) : Ps B b s { st with nodes := st.nodes ++ [y] } r (w7.setCell ⟨b, 2, none⟩ (.slice A7 (st.nodes.length + 1) c7)) := by
  rcases X.apart with e | ⟨g, e⟩
  · exact push_done (g := 0) h X hg ho (.inl e)
  · exact push_done h X hg ho (.inr e)
theorem add_attr {st : Ppa.St} {nm vl : Ppa.Bs} {p : Int} : Ppa.add st (3, nm, vl, p) = { st with nodes := st.nodes ++ [(3, nm, vl, p)] } := rfl
theorem add_other {st : Ppa.St} {k : Nat} {nm vl : Ppa.Bs} {p : Int} (hk : k ≠ 3) : Ppa.add st (k, nm, vl, p) = { Ppa.flush st p with nodes := (Ppa.flush st p).nodes ++ [(k, nm, vl, p)] } := by
  unfold Ppa.add
  rw [if_neg hk]
theorem ret_int {a b : Int} (h : a = b) : Ending.returned (.int .i64 a) = .returned (.int .i64 b) := by rw [h]
theorem box_cells (w : World) (k p : Int) (nm vl : Ppa.Bs) (T : TypeId) : ∀ i x, (#[.int .u8 k, .string ⟨nm.toArray⟩, .string ⟨vl.toArray⟩, .int .i64 p] : Array Value)[i]? = some x → (w.alloc (.cells #[.int .u8 k, .string ⟨nm.toArray⟩, .string ⟨vl.toArray⟩, .int .i64 p] T)).cell? ⟨w.heap.size, i, none⟩ = some x := by
  intro i x h
  rw [World.cell?_alloc_new]
  exact h
theorem alloc_grown {w w7 : World} {o : Obj} {row : Option Nat} (h : (w.drew.alloc o).grownBy w7 row) : w.grownBy w7 row :=
  (grown_of_below (((Below.refl _ w).drew).alloc (Nat.le_refl _) o) row).trans h
set_option maxRecDepth 100000 in
set_option maxHeartbeats 2000000 in
theorem add_s3 {B b : Nat} {s : ByteArray} {st : Ppa.St} {r : Ppa.Bs} {w : World} (nm vl : Ppa.Bs) (p : Int) (h : Ps B b s st r w) (h1 : st.nodes.length ≤ 1000000) :
    Calls Tryz.prog 52 #[.pointer (some ⟨b, 0, none⟩), ndV 3 nm vl p] w fun e w' => e = .returned (.int .i64 (st.nodes.length : Int)) ∧ Ps B b s (Ppa.add st (3, nm, vl, p)) r w' ∧ Bel B b w w' := by
  have hb1 : Below w.heap.size w (w.alloc (.cells #[.int .u8 3, .string ⟨nm.toArray⟩, .string ⟨vl.toArray⟩, .int .i64 p] 32)) := (Below.refl _ _).alloc (Nat.le_refl _) _
  have hs := h.below hb1
  obtain ⟨A, c, q, v, X⟩ := hs.px
  have HB := Kept.mk (Bel.of (b := b) hb1 h.hB)
  rw [add_attr]
  unfold ndV
  have hc := box_cells w 3 p nm vl 32
  have hlg : w.heap.size < (w.alloc (.cells #[.int .u8 3, .string ⟨nm.toArray⟩, .string ⟨vl.toArray⟩, .int .i64 p] 32)).heap.size := by simp
  clear h hb1
  go_enter Tryz.func52, Tryz.ntmps52
  go_wp2
  generalize w.alloc (.cells #[.int .u8 3, .string ⟨nm.toArray⟩, .string ⟨vl.toArray⟩, .int .i64 p] 32) = W at *
  have n0 := hc 0 _ rfl
  have n1 := hc 1 _ rfl
  have n2 := hc 2 _ rfl
  have n3 := hc 3 _ rfl
  have d2 := X.c2
  have hlt := X.lt
  have hBW := hs.hB
  have HS := Kept.mk hs
  have HX := Kept.mk X
  have HN := Kept.mk X.nds
  clear hc X hs
  go_region_law (refine step_append_nd rfl (.tmp 16) (.tmp 18) rfl B (.slice A (st).nodes.length c) (st).nodes.length (st).nodes (by rfl) (Flt.own_below HN.out (((Below.refl _ W).drew).alloc (Nat.le_refl _) (.cells #[.int .u8 3, .string ⟨nm.toArray⟩, .string ⟨vl.toArray⟩, .int .i64 p] 32))) W.heap.size (3, nm, vl, p) (by rfl) (World.news_of_block (heap_alloc_new _ _)) (by omega) (by simp; omega) ?_; intro v7 w7 ho7 hg7; obtain ⟨A7, c7, rfl, _⟩ := Flt.own_slice ho7; have hg8 := alloc_grown hg7; have hb7 := (hg8.block b hlt (fun e => HX.out.ndsn e.symm)).trans HX.out.blk; have e2 : w7.cell? ⟨b, 2, none⟩ = some (.slice A (st).nodes.length c) := (by rw [cell_of_row w7 b _ _ _ _ hb7]; rfl); have f2 : w7.frozen? ⟨b, 2, none⟩ = false := Joins.unfrozen_of_block hb7 _; have HP := Kept.mk (pushed HS.out HX.out hg8 ho7); have HG := Kept.mk (Bel.nodes (b := b) hg8 HS.out.hB HN.out); clear ho7 hg7 hg8 hb7)
  all_goals
    have HC := Kept.mk HP.out
    obtain ⟨A8, c8, q8, v8, X8⟩ := HP.out.px
    have d8 := X8.c2
    have hz8 : ({ st with nodes := st.nodes ++ [(3, nm, vl, p)] } : Ppa.St).nodes.length = st.nodes.length + 1 := by simp
    rw [hz8] at d8
    clear X8 hz8
    go_wp2
    go_ret
    exact ⟨ret_int (by omega), HP.out, HB.out.trans (HG.out.setCell (p := ⟨b, 2, none⟩) HS.out.le _)⟩
theorem flush_len (st : Ppa.St) (p : Int) : (Ppa.flush st p).nodes.length ≤ st.nodes.length + 1 := by
  unfold Ppa.flush
  split <;> simp
set_option maxRecDepth 100000 in
set_option maxHeartbeats 2000000 in
theorem add_sk {B b : Nat} {s : ByteArray} {st : Ppa.St} {r : Ppa.Bs} {w : World} (k : Nat) (hk : k ≠ 3) (nm vl : Ppa.Bs) (p : Int) (h : Ps B b s st r w) (h1 : st.nodes.length ≤ 900000) (h2 : st.text.length ≤ 1000000) :
    Calls Tryz.prog 52 #[.pointer (some ⟨b, 0, none⟩), ndV (k : Int) nm vl p] w fun e w' => e = .returned (.int .i64 ((Ppa.flush st p).nodes.length : Int)) ∧ Ps B b s (Ppa.add st (k, nm, vl, p)) r w' ∧ Bel B b w w' := by
  have hb1 : Below w.heap.size w (w.alloc (.cells #[.int .u8 (k : Int), .string ⟨nm.toArray⟩, .string ⟨vl.toArray⟩, .int .i64 p] 32)) := (Below.refl _ _).alloc (Nat.le_refl _) _
  have hs := h.below hb1
  obtain ⟨A, c, q, v, X0⟩ := h.px
  have HB := Kept.mk (Bel.of (b := b) hb1 h.hB)
  have hngb : w.heap.size ≠ b := by have := X0.lt; omega
  have hno : (Value.slice A st.nodes.length c).ownBlock ≠ some w.heap.size := fun e => by have := (X0.nds.lt _ e).2; omega
  have CF := Kept.mk (flush_x p hs (X0.below hb1) (by omega) h2)
  have hfl := flush_len st p
  have hgk : (w.alloc (.cells #[.int .u8 (k : Int), .string ⟨nm.toArray⟩, .string ⟨vl.toArray⟩, .int .i64 p] 32)).heap[w.heap.size]? = some (.cells #[.int .u8 (k : Int), .string ⟨nm.toArray⟩, .string ⟨vl.toArray⟩, .int .i64 p] 32) := heap_alloc_new _ _
  rw [add_other hk]
  unfold ndV
  have e3 : ((k : Int) != 3) = true := by simp; omega
  have e3' : ¬ (k : Int) = 3 := by omega
  have HK := Kept.mk hgk
  have hc := box_cells w k p nm vl 32
  have k0 := hc 0 _ rfl
  have k3 := hc 3 _ rfl
  have hlg : w.heap.size < (w.alloc (.cells #[.int .u8 (k : Int), .string ⟨nm.toArray⟩, .string ⟨vl.toArray⟩, .int .i64 p] 32)).heap.size := by simp
  clear h hb1 hs X0 hgk hc
  go_enter Tryz.func52, Tryz.ntmps52
  go_wp2_with (go_at_call 68; refine CF.out.mono ?_; rintro e W ⟨rfl, hs, hbF, hkF⟩; have HBF := Kept.mk hbF; have hg := hkF w.heap.size _ hngb HK.out hno; have hlW := (Array.getElem?_eq_some_iff.1 hg).1; have n0 : W.cell? ⟨w.heap.size, 0, none⟩ = some (.int .u8 (k : Int)) := (by rw [cell_of_row W _ _ _ _ _ hg]; rfl); have n1 : W.cell? ⟨w.heap.size, 1, none⟩ = some (.string ⟨nm.toArray⟩) := (by rw [cell_of_row W _ _ _ _ _ hg]; rfl); have n2 : W.cell? ⟨w.heap.size, 2, none⟩ = some (.string ⟨vl.toArray⟩) := (by rw [cell_of_row W _ _ _ _ _ hg]; rfl); have n3 : W.cell? ⟨w.heap.size, 3, none⟩ = some (.int .i64 p) := (by rw [cell_of_row W _ _ _ _ _ hg]; rfl); clear hbF hkF hg; obtain ⟨A, c, q, v, X⟩ := hs.px; have d2 := X.c2; have hlt := X.lt; have hBW := hs.hB; have HS := Kept.mk hs; have HX := Kept.mk X; have HN := Kept.mk X.nds; clear X hs)
  go_region_law (refine step_append_nd rfl (.tmp 16) (.tmp 18) rfl B (.slice A (Ppa.flush st p).nodes.length c) (Ppa.flush st p).nodes.length (Ppa.flush st p).nodes (by rfl) (Flt.own_below HN.out (((Below.refl _ W).drew).alloc (Nat.le_refl _) (.cells #[.int .u8 (k : Int), .string ⟨nm.toArray⟩, .string ⟨vl.toArray⟩, .int .i64 p] 32))) W.heap.size (k, nm, vl, p) (by rfl) (World.news_of_block (heap_alloc_new _ _)) (by omega) (by simp; omega) ?_; intro v7 w7 ho7 hg7; obtain ⟨A7, c7, rfl, _⟩ := Flt.own_slice ho7; have hg8 := alloc_grown hg7; have hb7 := (hg8.block b hlt (fun e => HX.out.ndsn e.symm)).trans HX.out.blk; have e2 : w7.cell? ⟨b, 2, none⟩ = some (.slice A (Ppa.flush st p).nodes.length c) := (by rw [cell_of_row w7 b _ _ _ _ hb7]; rfl); have f2 : w7.frozen? ⟨b, 2, none⟩ = false := Joins.unfrozen_of_block hb7 _; have HP := Kept.mk (pushed HS.out HX.out hg8 ho7); have HG := Kept.mk (Bel.nodes (b := b) hg8 HS.out.hB HN.out); clear ho7 hg7 hg8 hb7)
  all_goals
    have HC := Kept.mk HP.out
    obtain ⟨A8, c8, q8, v8, X8⟩ := HP.out.px
    have d8 := X8.c2
    have hz8 : ({ Ppa.flush st p with nodes := (Ppa.flush st p).nodes ++ [(k, nm, vl, p)] } : Ppa.St).nodes.length = (Ppa.flush st p).nodes.length + 1 := by simp
    rw [hz8] at d8
    clear X8 hz8
    go_wp2
    go_ret
    exact ⟨ret_int (by omega), HP.out, (HB.out.trans HBF.out).trans (HG.out.setCell (p := ⟨b, 2, none⟩) HS.out.le _)⟩
end Go.Proofs.YtemfmidhekdekaaGreatDoor.Wps
namespace Go.Proofs.YtemfmidhekdekaaGreatDoor.Ppa
open Go Go.Lib Go.Proofs.YtemfmidhekdekaaGreatDoor.Ptr Go.Proofs.YtemfmidhekdekaaGreatDoor.Wps

/-- how much is told, and how much is left -/
def meas (s : St) (r : Bs) : Nat := s.nodes.length + s.text.length + 4 * r.length
theorem texts_suf {r : Bs} {x : UInt8} {t : Bs} (h : Pch.textsL r = true) (hs : (x :: t) <:+ r) (hx : x.toNat < 128) : Pch.textsL (x :: t) = true := by
  obtain ⟨u, rfl⟩ := hs
  exact texts_at _ (u ++ x :: t) u.length x t (Nat.le_refl _) h (by simp) hx
theorem texts_tail {r : Bs} {x : UInt8} {t : Bs} (h : Pch.textsL r = true) (hs : (x :: t) <:+ r) (hx : x.toNat < 128) : Pch.textsL t = true := texts_low hx (texts_suf h hs hx)
theorem texts_lit : ∀ (a t : Bs), (∀ c ∈ a, c.toNat < 128) → Pch.textsL (a ++ t) = true → Pch.textsL t = true
  | [], _, _, h => h
  | c :: a, t, ha, h => texts_lit a t (fun z hz => ha z (by simp [hz])) (texts_low (ha c (by simp)) h)
theorem textsL_nil : Pch.textsL [] = true := rfl
theorem mustL_app : ∀ (a r t : Bs), mustL a r = .ok t → r = a ++ t
  | [], r, t, h => by injection h
  | c :: a, [], t, h => by cases h
  | c :: a, x :: u, t, h => by
    unfold mustL at h
    split at h
    · rename_i e
      rw [mustL_app a u t h, e]
      rfl
    · cases h
theorem mustL_suf {a r t : Bs} (h : mustL a r = .ok t) : t <:+ r := ⟨a, (mustL_app a r t h).symm⟩
theorem mustL_err : ∀ (a r t : Bs), mustL a r = .error t → t <:+ r
  | [], r, t, h => by cases h
  | c :: a, [], t, h => by injection h with h; rw [← h]; exact List.nil_suffix
  | c :: a, x :: u, t, h => by
    unfold mustL at h
    split at h
    · exact (mustL_err a u t h).trans (List.suffix_cons _ _)
    · injection h with h
      rw [← h]
      exact List.suffix_refl _
theorem blanksL_suf (r : Bs) : blanksL r <:+ r := List.dropWhile_suffix _
theorem blanksL_texts {r : Bs} (h : Pch.textsL r = true) : Pch.textsL (blanksL r) = true := by
  induction r with
  | nil => exact h
  | cons y t ih =>
    cases hb : blankH (y :: t) with
    | false => rw [blanksL_of_false hb]; exact h
    | true => rw [blanksL_of_true hb]; exact ih (texts_low (blankC_low hb) h)
theorem nameF_ok : ∀ (f k : Nat) (r : Bs) (m : Nat), nameF f k r = .ok m → k ≤ m ∧ (Pch.textsL r = true → Pch.textsL (r.drop (m - k)) = true) ∧ m ≤ k + r.length
  | 0, k, r, m, h => by
    injection h with h
    subst h
    exact ⟨Nat.le_refl _, fun h => by rw [Nat.sub_self, List.drop_zero]; exact h, by omega⟩
  | f + 1, k, r, m, h => by
    unfold nameF at h
    split at h
    · rename_i hb
      have hne := name_ne hb
      split at h
      · cases h
      · obtain ⟨h1, h2, h3⟩ := nameF_ok f _ _ m h
        have hle := decodeL_le r hne
        have hl : (skip r).length = r.length - (decodeL r).2 := by unfold skip; exact List.length_drop
        refine ⟨by omega, fun ht => ?_, by omega⟩
        have h4 := h2 (texts_step hne ht).2.2
        unfold skip at h4
        rw [List.drop_drop, show (decodeL r).2 + (m - (k + (decodeL r).2)) = m - k by omega] at h4
        exact h4
    · injection h with h
      subst h
      exact ⟨Nat.le_refl _, fun h => by rw [Nat.sub_self, List.drop_zero]; exact h, by omega⟩
theorem nameF_err : ∀ (f k : Nat) (r : Bs) (m : Nat), nameF f k r = .error m → k ≤ m ∧ m ≤ k + r.length
  | 0, k, r, m, h => by cases h
  | f + 1, k, r, m, h => by
    unfold nameF at h
    split at h
    · rename_i hb
      have hne := name_ne hb
      split at h
      · injection h with h
        omega
      · have h1 := nameF_err f _ _ m h
        have hle := decodeL_le r hne
        have hl : (skip r).length = r.length - (decodeL r).2 := by unfold skip; exact List.length_drop
        omega
    · cases h
theorem decodeL_four (l : Bs) : (decodeL l).2 ≤ 4 := by
  unfold decodeL
  rw [decode_at]
  unfold decodeN
  repeat' split
  all_goals simp
theorem start_ne {r : Bs} (h : Pch.startB (peek r) = true) : r ≠ [] := name_ne (Pch.name_of_start h)
theorem nameM_ok {r nm t : Bs} (h : nameM r = .ok (nm, t)) : r = nm ++ t ∧ 0 < nm.length ∧ (Pch.textsL r = true → Pch.textsL t = true) := by
  unfold nameM at h
  split at h
  · rename_i hst
    have hne := start_ne hst
    have hp := List.length_pos_iff.2 hne
    have hw := decodeL_width r
    have hw4 := decodeL_four r
    cases hk : nameF r.length 0 r with
    | ok k =>
      rw [hk] at h
      injection h with h
      injection h with h1 h2
      obtain ⟨a1, a2, a3⟩ := nameF_ok _ _ _ _ hk
      have hk1 : 1 ≤ k := by
        obtain ⟨n, hn⟩ : ∃ n, r.length = n + 1 := ⟨r.length - 1, by omega⟩
        rw [hn, nameF_step n 0 r (Pch.name_of_start hst), if_neg (by omega)] at hk
        have := (nameF_ok _ _ _ _ hk).1
        omega
      subst h1 h2
      refine ⟨(List.take_append_drop k r).symm, by rw [List.length_take]; omega, fun ht => ?_⟩
      have := a2 ht
      rw [Nat.sub_zero] at this
      exact this
    | error k =>
      rw [hk] at h
      cases h
  · cases h
theorem nameM_suf {r nm t : Bs} (h : nameM r = .ok (nm, t)) : t <:+ r := ⟨nm, (nameM_ok h).1.symm⟩
theorem nameM_lt {r nm t : Bs} (h : nameM r = .ok (nm, t)) : nm.length + t.length = r.length ∧ 0 < nm.length := by
  obtain ⟨h1, h2, _⟩ := nameM_ok h
  rw [h1, List.length_append]
  exact ⟨rfl, h2⟩
theorem untilM_app (e : Bs) : ∀ (r v t : Bs), untilM e r = some (v, t) → r = v ++ e ++ t
  | [], v, t, h => by
    unfold untilM at h
    split at h
    · rename_i he
      injection h with h
      injection h with h1 h2
      subst h1 h2 he
      rfl
    · cases h
  | x :: u, v, t, h => by
    unfold untilM at h
    split at h
    · rename_i hp
      injection h with h
      injection h with h1 h2
      obtain ⟨z, hz⟩ := List.isPrefixOf_iff_prefix.1 hp
      subst h1 h2
      rw [← hz]
      simp
    · cases hu : untilM e u with
      | none => rw [hu] at h; cases h
      | some q =>
        obtain ⟨v', t'⟩ := q
        rw [hu] at h
        injection h with h
        injection h with h1 h2
        have ih := untilM_app e u v' t' hu
        dsimp only at h1 h2
        rw [← h1, ← h2, ih]
        rfl
theorem untilR_ok {e r v t : Bs} (h : untilR e r = .ok (v, t)) : r = v ++ e ++ t := by
  unfold untilR at h
  cases hu : untilM e r with
  | none => rw [hu] at h; cases h
  | some q =>
    rw [hu] at h
    injection h with h
    subst h
    exact untilM_app e r v t hu
theorem untilR_suf {e r v t : Bs} (h : untilR e r = .ok (v, t)) : t <:+ r := ⟨v ++ e, (untilR_ok h).symm⟩
theorem untilR_texts {e r v t : Bs} (h : untilR e r = .ok (v, t)) (he : e ≠ []) (hl : ∀ c ∈ e, c.toNat < 128) (hr : Pch.textsL r = true) : Pch.textsL t = true := by
  cases e with
  | nil => exact absurd rfl he
  | cons c e =>
    have h1 := untilR_ok h
    have h2 : (c :: (e ++ t)) <:+ r := ⟨v, by rw [h1]; simp⟩
    exact texts_lit e t (fun z hz => hl z (by simp [hz])) (texts_tail hr h2 (hl c (by simp)))
theorem numG_suf {hex : Bool} : ∀ (r : Bs) (n : Nat) (any : Bool) (m : Nat) (t : Bs), numG hex n any r = .ok (m, t) → t <:+ r
  | [], n, any, m, t, h => by rw [numG] at h; cases h
  | y :: u, n, any, m, t, h => by
    cases hd : digO hex (y :: u) with
    | some d =>
      rw [numG_more hd] at h
      generalize n * (if hex = true then 16 else 10) + d = z at h
      split at h
      · cases h
      · exact (numG_suf u _ true m t h).trans (List.suffix_cons _ _)
    | none =>
      rw [numG_end hd] at h
      split at h
      · cases h
      · injection h with h
        injection h with h1 h2
        subst h1 h2
        exact List.suffix_cons _ _
theorem isM_suf {a r t : Bs} {n m : Nat} (h : isM a n r = .ok (m, t)) : t <:+ r := by
  unfold isM at h
  cases hm : mustL a r with
  | ok u =>
    rw [hm] at h
    injection h with h
    injection h with h1 h2
    subst h1 h2
    exact mustL_suf hm
  | error u => rw [hm] at h; cases h
theorem refM_suf {r t : Bs} {n : Nat} (h : refM r = .ok (n, t)) : t <:+ r := by
  by_cases h1 : r.head? = some 35
  · obtain ⟨u, rfl⟩ := head_cons h1
    rw [refM_num] at h
    refine List.IsSuffix.trans ?_ (List.suffix_cons _ _)
    by_cases hx : u.head? = some 120
    · obtain ⟨v, rfl⟩ := head_cons hx
      exact (numG_suf v 0 false n t h).trans (List.suffix_cons _ _)
    · have e : numM u = numG false 0 false u := by
        unfold numM
        split
        · exact absurd rfl hx
        · rfl
      rw [e] at h
      exact numG_suf u 0 false n t h
  · by_cases h2 : r.head? = some 108
    · obtain ⟨u, rfl⟩ := head_cons h2
      rw [refM_l] at h
      exact isM_suf h
    · by_cases h3 : r.head? = some 103
      · obtain ⟨u, rfl⟩ := head_cons h3
        rw [refM_g] at h
        exact isM_suf h
      · by_cases h4 : r.head? = some 113
        · obtain ⟨u, rfl⟩ := head_cons h4
          rw [refM_q] at h
          exact isM_suf h
        · by_cases h5 : r.head? = some 97
          · obtain ⟨u, rfl⟩ := head_cons h5
            by_cases h6 : u.head? = some 109
            · obtain ⟨v, rfl⟩ := head_cons h6
              rw [refM_am] at h
              exact (isM_suf h).trans (List.suffix_cons _ _)
            · rw [refM_a h6] at h
              exact (isM_suf h).trans (List.suffix_cons _ _)
          · rw [refM_none h1 h2 h3 h4 h5] at h
            cases h
theorem nlL_suf (t : Bs) : nlL t <:+ t := by
  unfold nlL
  split
  · exact List.suffix_cons _ _
  · exact List.suffix_refl _
theorem encode_le (n : Nat) : (encodeRune (n : Int)).length ≤ 4 := by
  have h := (runeCells_le (n : Int)).2
  rw [runeCells_length] at h
  exact h
theorem valF_suf (q : UInt8) : ∀ (f : Nat) (acc r v t : Bs), valF q f acc r = some (.ok (v, t)) → (q :: t) <:+ r
  | 0, _, _, _, _, h => by cases h
  | f + 1, acc, [], v, t, h => by rw [valF] at h; cases h
  | f + 1, acc, x :: u, v, t, h => by
    rw [valF] at h
    split at h
    · rename_i e
      injection h with h
      injection h with h
      injection h with h1 h2
      subst h1 h2 e
      exact List.suffix_refl _
    · split at h
      · cases h
      · split at h
        · cases hr : refM u with
          | ok p =>
            obtain ⟨n, t'⟩ := p
            rw [hr] at h
            exact ((valF_suf q f _ t' v t h).trans (refM_suf hr)).trans (List.suffix_cons _ _)
          | error t' => rw [hr] at h; cases h
        · split at h
          · exact ((valF_suf q f _ _ v t h).trans (nlL_suf _)).trans (List.suffix_cons _ _)
          · split at h
            · exact (valF_suf q f _ _ v t h).trans (List.suffix_cons _ _)
            · exact (valF_suf q f _ _ v t h).trans (List.suffix_cons _ _)
theorem valM_ok {r v t : Bs} (h : valM r = .ok (v, t)) : ∃ q u, r = q :: u ∧ (q = 34 ∨ q = 39) ∧ (q :: t) <:+ u := by
  cases r with
  | nil => cases h
  | cons x u =>
    have h : (if x = 34 ∨ x = 39 then (match valF x (u.length + 1) [] u with | some o => o | none => Except.error []) else Except.error (x :: u)) = Except.ok (v, t) := h
    split at h
    · rename_i hq
      refine ⟨x, u, rfl, hq, ?_⟩
      cases hv : valF x (u.length + 1) [] u with
      | none => rw [hv] at h; cases h
      | some o =>
        rw [hv] at h
        dsimp only at h
        subst h
        exact valF_suf x _ _ _ v t hv
    · cases h
theorem valM_suf {r v t : Bs} (h : valM r = .ok (v, t)) : t <:+ r := by
  obtain ⟨q, u, rfl, _, hs⟩ := valM_ok h
  exact ((List.suffix_cons _ _).trans hs).trans (List.suffix_cons _ _)
theorem valM_texts {r v t : Bs} (h : valM r = .ok (v, t)) (hr : Pch.textsL r = true) : Pch.textsL t = true := by
  obtain ⟨q, u, rfl, hq, hs⟩ := valM_ok h
  have hlow : q.toNat < 128 := by rcases hq with rfl | rfl <;> decide
  exact texts_tail (texts_low hlow hr) hs hlow
theorem flush_meas (s : St) (p : Int) (r : Bs) : meas (flush s p) r ≤ meas s r := by
  unfold flush
  split
  · exact Nat.le_refl _
  · rename_i h
    have := List.length_pos_iff.2 h
    simp only [meas, List.length_append, List.length_cons, List.length_nil]
    omega
theorem add_meas (s : St) (n : Nd) (r : Bs) : meas (add s n) r ≤ meas s r + 1 := by
  unfold add
  split
  · simp only [meas, List.length_append, List.length_cons, List.length_nil]
    omega
  · have := flush_meas s n.2.2.2 r
    simp only [meas, List.length_append, List.length_cons, List.length_nil] at this ⊢
    omega
theorem meas_less {s : St} {r r' : Bs} (h : r' <:+ r) : meas s r' ≤ meas s r := by
  have := h.length_le
  unfold meas
  omega
theorem meas_lt {s : St} {r r' : Bs} {k : Nat} (h : r'.length + k ≤ r.length) : meas s r' + 4 * k ≤ meas s r := by
  unfold meas
  omega
theorem said_le (v : Bs) : (said v).length ≤ v.length := said_length v
theorem low2 : ∀ c ∈ ([63, 62] : Bs), c.toNat < 128 := by decide
theorem instrM_ok {p : Int} {r r' : Bs} {s s' : St} (h : instrM p r s = .ok (r', s')) : r' <:+ r ∧ meas s' r' ≤ meas s r ∧ (Pch.textsL r = true → Pch.textsL r' = true) := by
  unfold instrM at h
  cases hn : nameM r with
  | error r1 => rw [hn] at h; cases h
  | ok q =>
    obtain ⟨nm, r1⟩ := q
    rw [hn] at h
    dsimp only at h
    have a1 := nameM_ok hn
    have a2 := nameM_lt hn
    have a3 := nameM_suf hn
    split at h
    · cases h
    · cases r1 with
      | nil => cases h
      | cons x u =>
        dsimp only at h
        split at h
        · cases hu : untilR [63, 62] (blanksL (x :: u)) with
          | error r2 => rw [hu] at h; cases h
          | ok q2 =>
            obtain ⟨v, r2⟩ := q2
            rw [hu] at h
            injection h with h
            injection h with h1 h2
            subst h1 h2
            have b1 := (untilR_suf hu).trans (blanksL_suf _)
            have b2 := add_meas s (6, nm, said v, p) r2
            have b3 := b1.length_le
            refine ⟨b1.trans a3, ?_, fun ht => untilR_texts hu (by simp) low2 (blanksL_texts (a1.2.2 ht))⟩
            have b4 := meas_lt (s := s) (r := r) (r' := r2) (k := 1) (by omega)
            omega
        · split at h
          · cases hu : mustL [63, 62] (x :: u) with
            | error r2 => rw [hu] at h; cases h
            | ok r2 =>
              rw [hu] at h
              injection h with h
              injection h with h1 h2
              subst h1 h2
              have b1 := mustL_suf hu
              have b2 := add_meas s (6, nm, [], p) r2
              have b3 := b1.length_le
              refine ⟨b1.trans a3, ?_, fun ht => mustL_texts _ _ _ low2 (a1.2.2 ht) hu⟩
              have b4 := meas_lt (s := s) (r := r) (r' := r2) (k := 1) (by omega)
              omega
          · cases h
theorem commM_ok {p : Int} {r r' : Bs} {s s' : St} (h : commM p r s = .ok (r', s')) : r' <:+ r ∧ meas s' r' ≤ meas s r ∧ (Pch.textsL r = true → Pch.textsL r' = true) := by
  unfold commM at h
  cases hn : mustL [45] r with
  | error r1 => rw [hn] at h; cases h
  | ok r1 =>
    rw [hn] at h
    dsimp only at h
    cases hu : untilR [45, 45] r1 with
    | error r2 => rw [hu] at h; cases h
    | ok q =>
      obtain ⟨v, r2⟩ := q
      rw [hu] at h
      dsimp only at h
      cases hm : mustL [62] r2 with
      | error r3 => rw [hm] at h; cases h
      | ok r3 =>
        rw [hm] at h
        injection h with h
        injection h with h1 h2
        subst h1 h2
        have a1 := mustL_suf hn
        have a2 := mustL_app _ _ _ hn
        have b1 := untilR_suf hu
        have c1 := mustL_suf hm
        have l1 := b1.length_le
        have l2 := c1.length_le
        have b2 := add_meas s (5, [], said v, p) r3
        refine ⟨(c1.trans b1).trans a1, ?_, fun ht => mustL_texts _ _ _ (by decide) (untilR_texts hu (by simp) (by decide) (mustL_texts _ _ _ (by decide) ht hn)) hm⟩
        have b4 := meas_lt (s := s) (r := r) (r' := r3) (k := 1) (by rw [a2]; simp; omega)
        omega
theorem attrM_ok {N q : Nat} {r r' : Bs} {s s' : St} (h : attrM N q r s = .ok (r', s')) : r' <:+ r ∧ meas s' r' ≤ meas s r ∧ (Pch.textsL r = true → Pch.textsL r' = true) ∧ s'.text = s.text ∧ s'.nodes.length = s.nodes.length + 1 := by
  unfold attrM at h
  cases hn : nameM r with
  | error r1 => rw [hn] at h; cases h
  | ok q1 =>
    obtain ⟨nm, r1⟩ := q1
    rw [hn] at h
    dsimp only at h
    have a1 := nameM_ok hn
    have a2 := nameM_lt hn
    have a3 := nameM_suf hn
    cases hm : mustL [61] (blanksL r1) with
    | error r2 => rw [hm] at h; cases h
    | ok r2 =>
      rw [hm] at h
      dsimp only at h
      cases hv : valM (blanksL r2) with
      | error r3 => rw [hv] at h; cases h
      | ok q3 =>
        obtain ⟨v, r3⟩ := q3
        rw [hv] at h
        injection h with h
        injection h with h1 h2
        subst h1 h2
        have b1 := (mustL_suf hm).trans (blanksL_suf r1)
        have c1 := (valM_suf hv).trans (blanksL_suf r2)
        have l1 := b1.length_le
        have l2 := c1.length_le
        refine ⟨(c1.trans b1).trans a3, ?_, fun ht => valM_texts hv (blanksL_texts (mustL_texts _ _ _ (by decide) (blanksL_texts (a1.2.2 ht)) hm)), rfl, by simp [add]⟩
        have b4 := meas_lt (s := s) (r := r) (r' := r3) (k := 1) (by omega)
        have b5 := add_meas { s with twice := if s.twice < 0 ∧ ((s.nodes.drop (q + 1)).any fun o => o.2.1 == nm) = true then (N : Int) - r.length else s.twice } (3, nm, v, (q : Int)) r3
        unfold meas at b4 b5 ⊢
        dsimp only at b5
        omega
theorem attrsF_ok {N q : Nat} : ∀ (f : Nat) (r : Bs) (s : St) (r' : Bs) (s' : St), attrsF N q f r s = some (.ok (r', s')) → r' <:+ r ∧ meas s' r' ≤ meas s r ∧ (Pch.textsL r = true → Pch.textsL r' = true) ∧ s'.text = s.text ∧ s.nodes.length ≤ s'.nodes.length
  | 0, r, s, r', s', h => by cases h
  | f + 1, [], s, r', s', h => by
    rw [attrsF] at h
    injection h with h
    injection h with h
    injection h with h1 h2
    subst h1 h2
    exact ⟨List.suffix_refl _, Nat.le_refl _, id, rfl, Nat.le_refl _⟩
  | f + 1, x :: t, s, r', s', h => by
    rw [attrsF] at h
    split at h
    · have hb := blanksL_suf (x :: t)
      have htx : Pch.textsL (x :: t) = true → Pch.textsL (blanksL (x :: t)) = true := blanksL_texts
      have hme := meas_less (s := s) hb
      generalize blanksL (x :: t) = z at h hb htx hme
      split at h
      · injection h with h
        injection h with h
        injection h with h1 h2
        subst h1 h2
        exact ⟨hb, hme, htx, rfl, Nat.le_refl _⟩
      · injection h with h
        injection h with h
        injection h with h1 h2
        subst h1 h2
        exact ⟨hb, hme, htx, rfl, Nat.le_refl _⟩
      · cases ha : attrM N q z s with
        | error r2 => rw [ha] at h; cases h
        | ok q2 =>
          obtain ⟨r2, s2⟩ := q2
          rw [ha] at h
          dsimp only at h
          obtain ⟨a1, a2, a3, a4, a5⟩ := attrM_ok ha
          obtain ⟨b1, b2, b3, b4, b5⟩ := attrsF_ok f r2 s2 r' s' h
          exact ⟨(b1.trans a1).trans hb, by omega, fun h => b3 (a3 (htx h)), b4.trans a4, by omega⟩
    · injection h with h
      injection h with h
      injection h with h1 h2
      subst h1 h2
      exact ⟨List.suffix_refl _, Nat.le_refl _, id, rfl, Nat.le_refl _⟩
end Go.Proofs.YtemfmidhekdekaaGreatDoor.Ppa
namespace Go.Proofs.YtemfmidhekdekaaGreatDoor.Ppa
open Go Go.Lib Go.Proofs.YtemfmidhekdekaaGreatDoor.Ptr Go.Proofs.YtemfmidhekdekaaGreatDoor.Wps

/-- the state behind an element's begin -/
def elemS (N : Nat) (p : Int) (d : Nat) (r nm : Bs) (s : St) : St := add { s with deep := if 60 < d ∧ s.deep < 0 then (N : Int) - r.length - 1 else s.deep } (2, nm, [], p)
theorem elemS_meas (N : Nat) (p : Int) (d : Nat) (r nm : Bs) (s : St) (r' : Bs) : meas (elemS N p d r nm s) r' ≤ meas s r' + 1 := add_meas { s with deep := if 60 < d ∧ s.deep < 0 then (N : Int) - r.length - 1 else s.deep } (2, nm, [], p) r'
/-- the end of an element, behind its content -/
def closeM (nm r : Bs) : Except Bs Bs := match againL nm r with
  | .error r5 => .error r5
  | .ok r5 => mustL [62] (blanksL r5)
theorem match47 {α : Type} {r2 : Bs} (h : ¬ ∃ t, r2 = 47 :: t) (g z : Bs → α) : (match (generalizing := false) r2 with | 47 :: t => g t | r2 => z r2) = z r2 := by
  split
  · exact absurd ⟨_, rfl⟩ h
  · rfl
/-- an element, by its parts -/
theorem elemF_eq (N f : Nat) (p : Int) (d : Nat) (r : Bs) (s : St) : elemF N (f + 1) p d r s = match nameM r with
    | .error r1 => some (.error r1)
    | .ok (nm, r1) => match attrsF N (elemS N p d r nm s).nodes.length.pred (f + 1) r1 (elemS N p d r nm s) with
      | none => none
      | some (.error r2) => some (.error r2)
      | some (.ok (r2, s2)) => match r2 with
        | 47 :: t => some (match mustL [62] t with | .ok r3 => .ok (r3, s2) | .error r3 => .error r3)
        | r2 => match mustL [62] r2 with
          | .error r3 => some (.error r3)
          | .ok r3 => match contF N f ((elemS N p d r nm s).nodes.length.pred : Int) d 0 r3 s2 with
            | none => none
            | some (.error r4) => some (.error r4)
            | some (.ok (r4, s4)) => some (match closeM nm r4 with | .error r6 => .error r6 | .ok r6 => .ok (r6, s4)) := by
  unfold elemF
  unfold elemS closeM
  cases nameM r with
  | error r1 => rfl
  | ok q =>
    obtain ⟨nm, r1⟩ := q
    dsimp only
    generalize add { s with deep := if 60 < d ∧ s.deep < 0 then (N : Int) - r.length - 1 else s.deep } (2, nm, [], p) = S
    generalize attrsF N S.nodes.length.pred (f + 1) r1 S = o
    cases o with
    | none => rfl
    | some o =>
      cases o with
      | error r2 => rfl
      | ok q2 =>
        obtain ⟨r2, s2⟩ := q2
        dsimp only
        by_cases h47 : ∃ t, r2 = 47 :: t
        · obtain ⟨t, rfl⟩ := h47
          rfl
        · refine (match47 h47 _ _).trans ?_
          refine Eq.trans ?_ (match47 h47 _ _).symm
          cases mustL [62] r2 with
          | error r3 => rfl
          | ok r3 =>
            dsimp only
            generalize contF N f (S.nodes.length.pred : Int) d 0 r3 s2 = o
            cases o with
            | none => rfl
            | some o =>
              cases o with
              | error r4 => rfl
              | ok q4 =>
                obtain ⟨r4, s4⟩ := q4
                dsimp only
                cases againL nm r4 with
                | error r5 => rfl
                | ok r5 => rfl
theorem againF_suf : ∀ (f : Nat) (n r t : Bs), againF f n r = .ok t → t <:+ r
  | 0, n, r, t, h => by injection h with h; rw [h]; exact List.suffix_refl _
  | f + 1, n, r, t, h => by
    unfold againF at h
    split at h
    · injection h with h
      rw [h]
      exact List.suffix_refl _
    · split at h
      · exact (againF_suf f _ _ t h).trans (List.drop_suffix _ _)
      · cases h
theorem peek_ne0 {r n : Bs} (hn : n ≠ []) (h : peek r = peek n) : r ≠ [] := by
  intro e
  subst e
  have h1 := (peek_lo n).1
  have h2 : peek n = ((decodeL n).1 : Int) := by unfold peek; rw [if_neg hn]
  have h3 : peek ([] : Bs) = -1 := rfl
  omega
theorem againF_texts : ∀ (f : Nat) (n r t : Bs), Pch.textsL r = true → againF f n r = .ok t → Pch.textsL t = true
  | 0, n, r, t, hr, h => by injection h with h; rw [← h]; exact hr
  | f + 1, n, r, t, hr, h => by
    unfold againF at h
    split at h
    · injection h with h
      rw [← h]
      exact hr
    · rename_i hn
      split at h
      · rename_i hp
        exact againF_texts f _ _ t (texts_step (peek_ne0 hn hp) hr).2.2 h
      · cases h
theorem closeM_ok {nm r r' : Bs} (h : closeM nm r = .ok r') : r' <:+ r ∧ (Pch.textsL r = true → Pch.textsL r' = true) := by
  unfold closeM at h
  cases ha : againL nm r with
  | error r5 => rw [ha] at h; cases h
  | ok r5 =>
    rw [ha] at h
    dsimp only at h
    refine ⟨((mustL_suf h).trans (blanksL_suf _)).trans (againF_suf _ _ _ _ ha), fun ht => mustL_texts _ _ _ (by decide) (blanksL_texts (againF_texts _ _ _ _ ht ha)) h⟩
/-- what is claimed of a content, of markup and of an element -/
structure Kc (N f : Nat) : Prop where
  cont : ∀ (p : Int) (d run : Nat) (r : Bs) (s : St) (r' : Bs) (s' : St), contF N f p d run r s = some (.ok (r', s')) → r' <:+ r ∧ meas s' r' ≤ meas s r ∧ ((p < 0 ∧ r' = []) ∨ (0 ≤ p ∧ (47 :: r') <:+ r))
  mark : ∀ (p : Int) (d : Nat) (r : Bs) (s : St) (r' : Bs) (s' : St), markF N f p d r s = some (.ok (r', s')) → r' <:+ r ∧ meas s' r' ≤ meas s r ∧ (Pch.textsL r = true → Pch.textsL r' = true)
  elem : ∀ (p : Int) (d : Nat) (r : Bs) (s : St) (r' : Bs) (s' : St), elemF N f p d r s = some (.ok (r', s')) → r' <:+ r ∧ meas s' r' ≤ meas s r ∧ (Pch.textsL r = true → Pch.textsL r' = true)
theorem kc_cont {N f : Nat} (ih : Kc N f) (p : Int) (d run : Nat) (r : Bs) (s : St) (r' : Bs) (s' : St) (h : contF N (f + 1) p d run r s = some (.ok (r', s'))) : r' <:+ r ∧ meas s' r' ≤ meas s r ∧ ((p < 0 ∧ r' = []) ∨ (0 ≤ p ∧ (47 :: r') <:+ r)) := by
  unfold contF at h
  cases r with
  | nil =>
    dsimp only at h
    split at h
    · rename_i hp
      injection h with h
      injection h with h
      injection h with h1 h2
      subst h1 h2
      exact ⟨List.suffix_refl _, flush_meas s p [], .inl ⟨hp, rfl⟩⟩
    · cases h
  | cons x t =>
    have hxt : t <:+ x :: t := List.suffix_cons _ _
    have more : ∀ (r1 : Bs) (s1 : St) (run1 : Nat), r1 <:+ t → meas s1 r1 ≤ meas s (x :: t) → contF N f p d run1 r1 s1 = some (.ok (r', s')) → r' <:+ x :: t ∧ meas s' r' ≤ meas s (x :: t) ∧ ((p < 0 ∧ r' = []) ∨ (0 ≤ p ∧ (47 :: r') <:+ x :: t)) := by
      intro r1 s1 run1 h1 h2 h3
      obtain ⟨a1, a2, a3⟩ := ih.cont p d run1 r1 s1 r' s' h3
      refine ⟨(a1.trans h1).trans hxt, by omega, ?_⟩
      rcases a3 with a3 | ⟨a3, a4⟩
      · exact .inl a3
      · exact .inr ⟨a3, (a4.trans h1).trans hxt⟩
    dsimp only at h
    split at h
    · cases h
    · split at h
      · split at h
        · rename_i hh
          injection h with h
          injection h with h
          injection h with h1 h2
          obtain ⟨hp, hh⟩ := hh
          obtain ⟨u, rfl⟩ := head_cons hh
          subst h1 h2
          refine ⟨(List.suffix_cons _ _).trans hxt, ?_, .inr ⟨hp, hxt⟩⟩
          have h1 := flush_meas s p u
          unfold meas at h1 ⊢
          simp only [List.tail_cons, List.length_cons]
          omega
        · cases hm : markF N f p d t s with
          | none => rw [hm] at h; cases h
          | some o =>
            rw [hm] at h
            cases o with
            | error r1 => cases h
            | ok q =>
              obtain ⟨r1, s1⟩ := q
              obtain ⟨a1, a2, _⟩ := ih.mark p d t s r1 s1 hm
              refine more r1 s1 0 a1 ?_ h
              have := meas_less (s := s) hxt
              omega
      · split at h
        · cases hr : refM t with
          | error r1 => rw [hr] at h; cases h
          | ok q =>
            obtain ⟨n, r1⟩ := q
            rw [hr] at h
            have a1 := refM_suf hr
            have a2 := a1.length_le
            have a3 := encode_le n
            refine more r1 _ 0 a1 ?_ h
            simp only [meas, List.length_append, List.length_cons]
            omega
        · split at h
          · have a1 := nlL_suf t
            have a2 := a1.length_le
            refine more _ _ 0 a1 ?_ h
            simp only [meas, List.length_append, List.length_cons, List.length_nil]
            omega
          · refine more t _ _ (List.suffix_refl _) ?_ h
            simp only [meas, List.length_append, List.length_cons, List.length_nil]
            omega
theorem kc_mark {N f : Nat} (ih : Kc N f) (p : Int) (d : Nat) (r : Bs) (s : St) (r' : Bs) (s' : St) (h : markF N (f + 1) p d r s = some (.ok (r', s'))) : r' <:+ r ∧ meas s' r' ≤ meas s r ∧ (Pch.textsL r = true → Pch.textsL r' = true) := by
  unfold markF at h
  split at h
  · rename_i t
    injection h with h
    obtain ⟨a1, a2, a3⟩ := instrM_ok h
    have := meas_less (s := s) (List.suffix_cons 63 t)
    exact ⟨a1.trans (List.suffix_cons _ _), by omega, fun ht => a3 (texts_low (by decide) ht)⟩
  · rename_i t
    injection h with h
    obtain ⟨a1, a2, a3⟩ := commM_ok h
    have h1 : t <:+ 33 :: 45 :: t := (List.suffix_cons _ _).trans (List.suffix_cons _ _)
    have := meas_less (s := s) h1
    exact ⟨a1.trans h1, by omega, fun ht => a3 (texts_low (by decide) (texts_low (by decide) ht))⟩
  · rename_i t _
    injection h with h
    cases hm : mustL [91, 67, 68, 65, 84, 65, 91] t with
    | error r1 => rw [hm] at h; cases h
    | ok r1 =>
      rw [hm] at h
      dsimp only at h
      cases hu : untilR [93, 93, 62] r1 with
      | error r2 => rw [hu] at h; cases h
      | ok q =>
        obtain ⟨v, r2⟩ := q
        rw [hu] at h
        injection h with h
        injection h with h1 h2
        subst h1 h2
        have a1 := mustL_suf hm
        have b1 := untilR_suf hu
        have b2 := untilR_ok hu
        have l1 := a1.length_le
        have hxt : t <:+ 33 :: t := List.suffix_cons _ _
        refine ⟨(b1.trans a1).trans hxt, ?_, fun ht => untilR_texts hu (by simp) (by decide) (mustL_texts _ _ _ (by decide) (texts_low (by decide) ht) hm)⟩
        have hs := said_le v
        have hz : r1.length = v.length + 3 + r2.length := by rw [b2]; simp; omega
        simp only [meas, List.length_append, List.length_cons]
        omega
  · exact ih.elem p (d + 1) r s r' s' h
theorem kc_elem {N f : Nat} (ih : Kc N f) (p : Int) (d : Nat) (r : Bs) (s : St) (r' : Bs) (s' : St) (h : elemF N (f + 1) p d r s = some (.ok (r', s'))) : r' <:+ r ∧ meas s' r' ≤ meas s r ∧ (Pch.textsL r = true → Pch.textsL r' = true) := by
  rw [elemF_eq] at h
  cases hn : nameM r with
  | error r1 => rw [hn] at h; cases h
  | ok q =>
    obtain ⟨nm, r1⟩ := q
    rw [hn] at h
    dsimp only at h
    have a1 := nameM_suf hn
    have a2 := nameM_lt hn
    have a3 := (nameM_ok hn).2.2
    have a4 := elemS_meas N p d r nm s r1
    have a5 := meas_lt (s := s) (r := r) (r' := r1) (k := 1) (by omega)
    generalize elemS N p d r nm s = s1 at h a4
    split at h
    · cases h
    · cases h
    · rename_i r2 s2 hat
      obtain ⟨b1, b2, b3, _, _⟩ := attrsF_ok _ _ _ _ _ hat
      split at h
      · rename_i t
        injection h with h
        cases hm : mustL [62] t with
        | error r3 => rw [hm] at h; cases h
        | ok r3 =>
          rw [hm] at h
          injection h with h
          injection h with h1 h2
          subst h1 h2
          have c1 := mustL_suf hm
          have c2 := c1.trans (List.suffix_cons 47 t)
          have c3 := meas_less (s := s2) c2
          exact ⟨(c2.trans b1).trans a1, by omega, fun ht => mustL_texts _ _ _ (by decide) (texts_low (by decide) (b3 (a3 ht))) hm⟩
      · cases hm : mustL [62] r2 with
        | error r3 => rw [hm] at h; cases h
        | ok r3 =>
          rw [hm] at h
          dsimp only at h
          have c1 := mustL_suf hm
          have c3 := meas_less (s := s2) c1
          split at h
          · cases h
          · cases h
          · rename_i r4 s4 hco
            obtain ⟨d1, d2, d3⟩ := ih.cont _ _ _ _ _ _ _ hco
            injection h with h
            cases hcl : closeM nm r4 with
            | error r6 => rw [hcl] at h; cases h
            | ok r6 =>
              rw [hcl] at h
              injection h with h
              injection h with h1 h2
              subst h1 h2
              obtain ⟨e1, e2⟩ := closeM_ok hcl
              have e3 := meas_less (s := s4) e1
              refine ⟨(((e1.trans d1).trans c1).trans b1).trans a1, by omega, fun ht => e2 ?_⟩
              rcases d3 with ⟨d3, _⟩ | ⟨_, d3⟩
              · exfalso; omega
              · exact texts_tail (mustL_texts _ _ _ (by decide) (b3 (a3 ht)) hm) d3 (by decide)
theorem kc_all (N : Nat) : ∀ f, Kc N f
  | 0 => ⟨fun p d run r s r' s' h => (by unfold contF at h; cases h), fun p d r s r' s' h => (by unfold markF at h; cases h), fun p d r s r' s' h => (by unfold elemF at h; cases h)⟩
  | f + 1 => ⟨kc_cont (kc_all N f), kc_mark (kc_all N f), kc_elem (kc_all N f)⟩
/-! ### the fuel -/
theorem attrsF_some {N q : Nat} : ∀ (f : Nat) (r : Bs) (s : St), r.length < f → ∃ o, attrsF N q f r s = some o
  | 0, r, s, h => by omega
  | f + 1, [], s, h => ⟨_, by rw [attrsF]⟩
  | f + 1, x :: t, s, h => by
    rw [attrsF]
    split
    · rename_i hbl
      have hb : (blanksL (x :: t)).length ≤ t.length := by
        rw [blanksL_of_true (y := x) (t := t) hbl]
        exact (blanksL_suf t).length_le
      generalize blanksL (x :: t) = z at hb
      split
      · exact ⟨_, rfl⟩
      · exact ⟨_, rfl⟩
      · cases ha : attrM N q z s with
        | error r2 => exact ⟨_, rfl⟩
        | ok q2 =>
          obtain ⟨r2, s2⟩ := q2
          have := (attrM_ok ha).1.length_le
          exact attrsF_some f r2 s2 (by simp only [List.length_cons] at h; omega)
    · exact ⟨_, rfl⟩
structure Kd (N f : Nat) : Prop where
  cont : ∀ (p : Int) (d run : Nat) (r : Bs) (s : St), 3 * r.length + 1 ≤ f → ∃ o, contF N f p d run r s = some o
  mark : ∀ (p : Int) (d : Nat) (r : Bs) (s : St), 3 * r.length + 3 ≤ f → ∃ o, markF N f p d r s = some o
  elem : ∀ (p : Int) (d : Nat) (r : Bs) (s : St), 3 * r.length + 2 ≤ f → ∃ o, elemF N f p d r s = some o
theorem kd_all (N : Nat) : ∀ f, Kd N f
  | 0 => ⟨fun p d run r s h => by omega, fun p d r s h => by omega, fun p d r s h => by omega⟩
  | f + 1 => by
    have ih := kd_all N f
    refine ⟨fun p d run r s h => ?_, fun p d r s h => ?_, fun p d r s h => ?_⟩
    · unfold contF
      cases r with
      | nil =>
        dsimp only
        split <;> exact ⟨_, rfl⟩
      | cons x t =>
        simp only [List.length_cons] at h
        dsimp only
        split
        · exact ⟨_, rfl⟩
        · split
          · split
            · exact ⟨_, rfl⟩
            · obtain ⟨o, ho⟩ := ih.mark p d t s (by omega)
              rw [ho]
              cases o with
              | error r1 => exact ⟨_, rfl⟩
              | ok q =>
                obtain ⟨r1, s1⟩ := q
                have := ((kc_all N f).mark p d t s r1 s1 ho).1.length_le
                exact ih.cont p d 0 r1 s1 (by omega)
          · split
            · cases hr : refM t with
              | error r1 => exact ⟨_, rfl⟩
              | ok q =>
                obtain ⟨n, r1⟩ := q
                have := (refM_suf hr).length_le
                exact ih.cont p d 0 r1 _ (by omega)
            · split
              · have := (nlL_suf t).length_le
                exact ih.cont p d 0 _ _ (by omega)
              · exact ih.cont p d _ t _ (by omega)
    · unfold markF
      split
      · exact ⟨_, rfl⟩
      · exact ⟨_, rfl⟩
      · exact ⟨_, rfl⟩
      · exact ih.elem p (d + 1) r s (by omega)
    · rw [elemF_eq]
      cases hn : nameM r with
      | error r1 => exact ⟨_, rfl⟩
      | ok q =>
        obtain ⟨nm, r1⟩ := q
        dsimp only
        have a2 := nameM_lt hn
        obtain ⟨o, ho⟩ := attrsF_some (N := N) (q := (elemS N p d r nm s).nodes.length.pred) (f + 1) r1 (elemS N p d r nm s) (by omega)
        rw [ho]
        cases o with
        | error r2 => exact ⟨_, rfl⟩
        | ok q2 =>
          obtain ⟨r2, s2⟩ := q2
          have b1 := (attrsF_ok _ _ _ _ _ ho).1.length_le
          dsimp only
          split
          · exact ⟨_, rfl⟩
          · cases hm : mustL [62] r2 with
            | error r3 => exact ⟨_, rfl⟩
            | ok r3 =>
              dsimp only
              have c1 := (mustL_suf hm).length_le
              obtain ⟨o2, ho2⟩ := ih.cont ((elemS N p d r nm s).nodes.length.pred : Int) d 0 r3 s2 (by omega)
              rw [ho2]
              cases o2 with
              | error r4 => exact ⟨_, rfl⟩
              | ok q4 => exact ⟨_, rfl⟩
end Go.Proofs.YtemfmidhekdekaaGreatDoor.Ppa
