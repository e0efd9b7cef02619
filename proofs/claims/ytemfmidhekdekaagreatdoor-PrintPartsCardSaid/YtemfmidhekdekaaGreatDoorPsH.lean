/- Joined texts, slimmed: ParseKx, ParseRa, ParseRb, ParseRc, ParseRd. -/
import Derived.Test.YtemfmidhekdekaaGreatDoorPsG
namespace Go.Proofs.YtemfmidhekdekaaGreatDoor.Ppa
open Go Go.Lib Go.Proofs.YtemfmidhekdekaaGreatDoor.Ptr Go.Proofs.YtemfmidhekdekaaGreatDoor.Wps

end Go.Proofs.YtemfmidhekdekaaGreatDoor.Ppa
namespace Go.Proofs.YtemfmidhekdekaaGreatDoor.Ppa
open Go Go.Lib Go.Proofs.YtemfmidhekdekaaGreatDoor.Ptr Go.Proofs.YtemfmidhekdekaaGreatDoor.Wps

theorem valM_eq (x : UInt8) (u : Bs) : valM (x :: u) = if x = 34 ∨ x = 39 then (match valF x (u.length + 1) [] u with | some o => o | none => Except.error []) else Except.error (x :: u) := rfl
/-- an end of a right text -/
def Tx (r : Bs) : Prop := ∃ r0, Pch.textsL r0 = true ∧ r <:+ r0
theorem Tx.suf {r t : Bs} (h : Tx r) (hs : t <:+ r) : Tx t := by
  obtain ⟨r0, h1, h2⟩ := h
  exact ⟨r0, h1, hs.trans h2⟩
theorem Tx.low {x : UInt8} {t : Bs} (h : Tx (x :: t)) (hx : x.toNat < 128) : Pch.textsL t = true := by
  obtain ⟨r0, h1, h2⟩ := h
  exact texts_tail h1 h2 hx
theorem Tx.of {r : Bs} (h : Pch.textsL r = true) : Tx r := ⟨r, h, List.suffix_refl _⟩
end Go.Proofs.YtemfmidhekdekaaGreatDoor.Ppa
namespace Go.Proofs.YtemfmidhekdekaaGreatDoor.Ppa
open Go Go.Lib Go.Proofs.YtemfmidhekdekaaGreatDoor.Ptr Go.Proofs.YtemfmidhekdekaaGreatDoor.Wps

theorem elem_tail (N f : Nat) (p : Int) (d : Nat) (r : Bs) (s : St) : elemF N (f + 1) p d r s = match nameM r with
    | .error r1 => some (.error r1)
    | .ok (nm, r1) => match attrsF N (elemS N p d r nm s).nodes.length.pred (f + 1) r1 (elemS N p d r nm s) with
      | none => none
      | some oA => tailM N f nm (elemS N p d r nm s).nodes.length.pred d oA := by
  rw [elemF_eq]
  cases nameM r with
  | error r1 => rfl
  | ok q =>
    obtain ⟨nm, r1⟩ := q
    dsimp only
    generalize elemS N p d r nm s = S
    generalize attrsF N S.nodes.length.pred (f + 1) r1 S = oo
    cases oo with
    | none => rfl
    | some oA =>
      cases oA with
      | error r2 => rfl
      | ok q2 =>
        obtain ⟨r2, s2⟩ := q2
        by_cases h47 : ∃ t, r2 = 47 :: t
        · obtain ⟨t, rfl⟩ := h47
          rfl
        · unfold tailM
          refine (match47 h47 _ _).trans ?_
          symm
          exact match47 h47 _ _
end Go.Proofs.YtemfmidhekdekaaGreatDoor.Ppa
namespace Go.Proofs.YtemfmidhekdekaaGreatDoor.Ppa
open Go Go.Lib Go.Proofs.YtemfmidhekdekaaGreatDoor.Ptr Go.Proofs.YtemfmidhekdekaaGreatDoor.Wps

end Go.Proofs.YtemfmidhekdekaaGreatDoor.Ppa
namespace Go.Proofs.YtemfmidhekdekaaGreatDoor.Ppa
open Go Go.Lib Go.Proofs.YtemfmidhekdekaaGreatDoor.Ptr Go.Proofs.YtemfmidhekdekaaGreatDoor.Wps

/-- an end, at a character -/
def Er (r t : Bs) : Prop := t <:+ r ∧ (Pch.textsL r = true → Pch.textsL t = true)
theorem Er.nil (r : Bs) : Er r [] := ⟨List.nil_suffix, fun _ => rfl⟩
theorem Er.trans {a b c : Bs} (h : Er a b) (k : Er b c) : Er a c := ⟨k.1.trans h.1, fun t => k.2 (h.2 t)⟩
theorem Er.low {x : UInt8} (t : Bs) (hx : x.toNat < 128) : Er (x :: t) t := ⟨List.suffix_cons _ _, texts_low hx⟩
/-- the same for an end of a right text -/
def Et (r t : Bs) : Prop := t <:+ r ∧ (Tx r → Pch.textsL t = true)
theorem Et.nil (r : Bs) : Et r [] := ⟨List.nil_suffix, fun _ => rfl⟩
theorem Et.suf {a b c : Bs} (h : b <:+ a) (k : Et b c) : Et a c := ⟨k.1.trans h, fun t => k.2 (t.suf h)⟩
end Go.Proofs.YtemfmidhekdekaaGreatDoor.Ppa
namespace Go.Proofs.YtemfmidhekdekaaGreatDoor.Ppa
open Go Go.Lib Go.Proofs.YtemfmidhekdekaaGreatDoor.Ptr Go.Proofs.YtemfmidhekdekaaGreatDoor.Wps

end Go.Proofs.YtemfmidhekdekaaGreatDoor.Ppa
namespace Go.Proofs.YtemfmidhekdekaaGreatDoor.Ppa
open Go Go.Lib Go.Proofs.YtemfmidhekdekaaGreatDoor.Ptr Go.Proofs.YtemfmidhekdekaaGreatDoor.Wps

theorem texts_cons {x : UInt8} {t : Bs} (hx : x.toNat < 128) (hc : Pch.charB (x.toNat : Int) = true) : Pch.textsL (x :: t) = Pch.textsL t := by
  unfold Pch.textsL
  rw [Pch.runes_step _ (by simp), decodeL_ascii x t hx, List.all_cons, hc]
  have ho : Pch.okR (x.toNat, 1) = true := by unfold Pch.okR; simp; omega
  rw [ho]
  rfl
theorem texts_char {x : UInt8} {t : Bs} (hx : x.toNat < 128) (h : Pch.textsL (x :: t) = true) : Pch.charB (x.toNat : Int) = true := by
  have := (texts_step (r := x :: t) (by simp) h).2.1
  rw [decodeL_ascii x t hx] at this
  exact this
theorem texts_take {r : Bs} (hne : r ≠ []) (h : Pch.textsL r = true) : Pch.textsL (r.take (decodeL r).2) = true := by
  have h2 := (texts_step hne h).2.2
  have h3 := Pch.texts_right (r.take (decodeL r).2) (skip r) h2
  unfold skip at h3
  rw [List.take_append_drop, h] at h3
  exact h3.symm
/-! ### names -/
theorem peek_of {r : Bs} (h : r ≠ []) : peek r = ((decodeL r).1 : Int) := by unfold peek; rw [if_neg h]
/-! ### line ends made one -/
theorem said_app_high : ∀ (u t : Bs), (∀ y ∈ u, 128 ≤ y.toNat) → said (u ++ t) = u ++ said t
  | [], t, _ => rfl
  | x :: u, t, h => by
    have hx := h x (by simp)
    rw [List.cons_append, said_other (fun e => by rw [e] at hx; revert hx; decide), said_app_high u t fun y hy => h y (by simp [hy])]
    rfl
theorem said_texts : ∀ (n : Nat) (v : Bs), v.length ≤ n → Pch.textsL v = true → Pch.textsL (said v) = true
  | _, [], _, _ => rfl
  | 0, _ :: _, h, _ => by simp at h
  | n + 1, x :: t, h, ht => by
    rcases Nat.lt_or_ge x.toNat 128 with hx | hx
    · have h2 := texts_low hx ht
      have hc := texts_char hx ht
      by_cases h13 : x = 13
      · subst h13
        by_cases h10 : t.head? = some 10
        · obtain ⟨u, rfl⟩ := head_cons h10
          rw [said_two, texts_cons (by decide) (by decide)]
          exact said_texts n u (by simp at h; omega) (texts_low (by decide) h2)
        · rw [said_one h10, texts_cons (by decide) (by decide)]
          exact said_texts n t (by simpa using h) h2
      · rw [said_other h13, texts_cons hx hc]
        exact said_texts n t (by simpa using h) h2
    · have hne : (x :: t) ≠ [] := by simp
      have hw := decodeL_width (x :: t)
      have h1 := texts_take hne ht
      have h2 := (texts_step hne ht).2.2
      have h3 := said_app_high _ (skip (x :: t)) (char_high hx ht)
      unfold skip at h2 h3
      rw [List.take_append_drop] at h3
      rw [h3, Pch.texts_left _ _ h1]
      exact said_texts n _ (by rw [List.length_drop]; omega) h2
theorem said_head {b : UInt8} (hb : b ≠ 10) : ∀ t : Bs, (said t).head? = some b → t.head? = some b := by
  intro t h
  cases t with
  | nil => exact h
  | cons x u =>
    by_cases h13 : x = 13
    · subst h13
      exfalso
      by_cases h10 : u.head? = some 10
      · obtain ⟨v, rfl⟩ := head_cons h10
        rw [said_two] at h
        injection h with h
        exact hb h.symm
      · rw [said_one h10] at h
        injection h with h
        exact hb h.symm
    · rw [said_other h13] at h
      exact h
theorem has2_cons {a b x : UInt8} {t : Bs} : has2 a b (x :: t) = ((x == a && t.head? == some b) || has2 a b t) := by
  cases t with
  | nil => simp [has2]
  | cons y u => rw [has2]; rfl
theorem said_has2 {a b : UInt8} (ha : a ≠ 10) (hb : b ≠ 10) : ∀ (n : Nat) (v : Bs), v.length ≤ n → has2 a b v = false → has2 a b (said v) = false
  | _, [], _, _ => rfl
  | 0, _ :: _, h, _ => by simp at h
  | n + 1, x :: t, h, hv => by
    rw [has2_cons, Bool.or_eq_false_iff] at hv
    have ih := said_has2 ha hb n t (by simpa using h) hv.2
    have h10 : ∀ u : Bs, has2 a b u = false → has2 a b (10 :: u) = false := fun u hu => by
      rw [has2_cons, hu, Bool.or_false]
      have : ((10 : UInt8) == a) = false := by simpa using fun e => ha e.symm
      rw [this]; rfl
    by_cases h13 : x = 13
    · subst h13
      by_cases h1 : t.head? = some 10
      · obtain ⟨u, rfl⟩ := head_cons h1
        rw [said_two]
        have hu : has2 a b u = false := by
          have := hv.2
          rw [has2_cons, Bool.or_eq_false_iff] at this
          exact this.2
        exact h10 _ (said_has2 ha hb n u (by simp at h; omega) hu)
      · rw [said_one h1]
        exact h10 _ ih
    · rw [said_other h13, has2_cons, ih, Bool.or_false]
      cases hx : (x == a) with
      | false => rfl
      | true =>
        have h1 := hv.1
        rw [hx, Bool.true_and] at h1
        rw [Bool.true_and]
        cases h2 : ((said t).head? == some b) with
        | false => rfl
        | true =>
          rw [beq_iff_eq] at h2
          rw [said_head hb t h2] at h1
          simp at h1
theorem said_snoc {c : UInt8} (h1 : c ≠ 10) (h2 : c ≠ 13) : ∀ (n : Nat) (v : Bs), v.length ≤ n → said (v ++ [c]) = said v ++ [c]
  | _, [], _ => by show said (c :: []) = [c]; rw [said_other h2]; rfl
  | 0, _ :: _, h => by simp at h
  | n + 1, x :: t, h => by
    by_cases h13 : x = 13
    · subst h13
      by_cases h10 : t.head? = some 10
      · obtain ⟨u, rfl⟩ := head_cons h10
        rw [said_two, List.cons_append, List.cons_append, said_two, said_snoc h1 h2 n u (by simp at h; omega)]
        rfl
      · rw [said_one h10, List.cons_append, said_one (by
          cases t with
          | nil => simpa using h1
          | cons y u => simpa using h10), said_snoc h1 h2 n t (by simpa using h)]
        rfl
    · rw [said_other h13, List.cons_append, said_other h13, said_snoc h1 h2 n t (by simpa using h)]
      rfl
theorem has2_snoc {a b c : UInt8} : ∀ l : Bs, has2 a b (l ++ [c]) = false → has2 a b l = false ∧ ¬ (l.getLast? = some a ∧ c = b)
  | [], _ => ⟨rfl, by simp⟩
  | x :: t, h => by
    rw [List.cons_append, has2_cons, Bool.or_eq_false_iff] at h
    obtain ⟨i1, i2⟩ := has2_snoc t h.2
    cases t with
    | nil =>
      refine ⟨rfl, ?_⟩
      rintro ⟨h1, rfl⟩
      have h1 : x = a := by simpa using h1
      subst h1
      have h2 := h.1
      simp at h2
    | cons y u =>
      refine ⟨?_, ?_⟩
      · rw [has2_cons, i1, Bool.or_false]
        exact h.1
      · rw [List.getLast?_cons_cons]
        exact i2
/-! ### references and values -/
theorem numG_char {hex : Bool} : ∀ (r : Bs) (n : Nat) (any : Bool) (m : Nat) (t : Bs), numG hex n any r = .ok (m, t) → Pch.charB (m : Int) = true ∧ (59 :: t) <:+ r
  | [], n, any, m, t, h => by rw [numG] at h; cases h
  | y :: u, n, any, m, t, h => by
    cases hd : digO hex (y :: u) with
    | some d =>
      rw [numG_more hd] at h
      generalize n * (if hex = true then 16 else 10) + d = z at h
      split at h
      · cases h
      · have := numG_char u _ true m t h
        exact ⟨this.1, this.2.trans (List.suffix_cons _ _)⟩
    | none =>
      rw [numG_end hd] at h
      split at h
      · cases h
      · rename_i hc
        injection h with h
        injection h with h1 h2
        subst h1 h2
        have h3 : ¬ peek (y :: u) ≠ 59 := fun e => hc (.inr (.inl e))
        have h3 : peek (y :: u) = 59 := Classical.byContradiction h3
        have h3 : (y :: u).head? = some 59 := (peek_is 59 (by decide) _).1 h3
        injection h3 with h3
        subst h3
        exact ⟨by cases hb : Pch.charB (n : Int) with
          | true => rfl
          | false => exact absurd (.inr (.inr hb)) hc, List.suffix_refl _⟩
theorem isM_char {a r t : Bs} {n m : Nat} (h : isM (a ++ [59]) n r = .ok (m, t)) : m = n ∧ (59 :: t) <:+ r := by
  unfold isM at h
  cases hm : mustL (a ++ [59]) r with
  | ok u =>
    rw [hm] at h
    injection h with h
    injection h with h1 h2
    subst h1 h2
    have := mustL_app _ _ _ hm
    exact ⟨rfl, ⟨a, by rw [this]; simp⟩⟩
  | error u => rw [hm] at h; cases h
theorem refM_char {r t : Bs} {n : Nat} (h : refM r = .ok (n, t)) : Pch.charB (n : Int) = true ∧ (59 :: t) <:+ r := by
  by_cases h1 : r.head? = some 35
  · obtain ⟨u, rfl⟩ := head_cons h1
    rw [refM_num] at h
    by_cases hx : u.head? = some 120
    · obtain ⟨v, rfl⟩ := head_cons hx
      have := numG_char v 0 false n t h
      exact ⟨this.1, (this.2.trans (List.suffix_cons _ _)).trans (List.suffix_cons _ _)⟩
    · have e : numM u = numG false 0 false u := by
        unfold numM
        split
        · exact absurd rfl hx
        · rfl
      rw [e] at h
      have := numG_char u 0 false n t h
      exact ⟨this.1, this.2.trans (List.suffix_cons _ _)⟩
  · by_cases h2 : r.head? = some 108
    · obtain ⟨u, rfl⟩ := head_cons h2
      rw [refM_l] at h
      obtain ⟨e, hs⟩ := isM_char (a := [108, 116]) h
      subst e
      exact ⟨by decide, hs⟩
    · by_cases h3 : r.head? = some 103
      · obtain ⟨u, rfl⟩ := head_cons h3
        rw [refM_g] at h
        obtain ⟨e, hs⟩ := isM_char (a := [103, 116]) h
        subst e
        exact ⟨by decide, hs⟩
      · by_cases h4 : r.head? = some 113
        · obtain ⟨u, rfl⟩ := head_cons h4
          rw [refM_q] at h
          obtain ⟨e, hs⟩ := isM_char (a := [113, 117, 111, 116]) h
          subst e
          exact ⟨by decide, hs⟩
        · by_cases h5 : r.head? = some 97
          · obtain ⟨u, rfl⟩ := head_cons h5
            by_cases h6 : u.head? = some 109
            · obtain ⟨v, rfl⟩ := head_cons h6
              rw [refM_am] at h
              obtain ⟨e, hs⟩ := isM_char (a := [109, 112]) h
              subst e
              exact ⟨by decide, hs.trans (List.suffix_cons _ _)⟩
            · rw [refM_a h6] at h
              obtain ⟨e, hs⟩ := isM_char (a := [112, 111, 115]) h
              subst e
              exact ⟨by decide, hs.trans (List.suffix_cons _ _)⟩
          · rw [refM_none h1 h2 h3 h4 h5] at h
            cases h
theorem refM_texts {r t : Bs} {n : Nat} (h : refM r = .ok (n, t)) (ht : Pch.textsL r = true) : Pch.textsL t = true := texts_tail ht (refM_char h).2 (by decide)
end Go.Proofs.YtemfmidhekdekaaGreatDoor.Ppa
namespace Go.Proofs.YtemfmidhekdekaaGreatDoor.Ptr
open Go

section
variable {L M : List Nd} {q : Int}
theorem kin_app {i : Nat} (h : i < L.length) : kin (L ++ M) i = kin L i := by unfold kin; simp [List.getElem?_append_left h, h]
theorem par_app {i : Nat} (h : i < L.length) : par (L ++ M) i = par L i := by unfold par; simp [List.getElem?_append_left h, h]
theorem kin_new (x : Nd) (M : List Nd) : kin (L ++ x :: M) L.length = x.1 := by unfold kin; simp
theorem par_new (x : Nd) (M : List Nd) : par (L ++ x :: M) L.length = x.2.2.2 := by unfold par; simp
theorem dep_app (hr : Rng L L.length) : ∀ (f i : Nat), i < L.length → dep (L ++ M) f i = dep L f i
  | 0, _, _ => rfl
  | f + 1, i, hi => by
    have h := hr i hi
    rw [dep, dep, kin_app hi, par_app hi]
    by_cases hp : par L i < 0
    · rw [if_pos hp, if_pos hp]
    · rw [if_neg hp, if_neg hp, dep_app hr f _ (by omega)]
theorem depN_app (hr : Rng L L.length) {i : Nat} (hi : i < L.length) : depN (L ++ M) i = depN L i := dep_app hr _ _ hi
end
/-- right, but for a value's length -/
def goodT (l : List Nd) (root : Bool) (i : Nat) : Bool := openB l i && (if (root && i == 0) = true then headB l i else Pch.textsL (val l i) && fitsK l i)
/-- the way up -/
inductive Up (L : List Nd) (q : Int) : Int → Prop
  | here : Up L q q
  | step {p : Int} : 0 ≤ p → Up L q (par L p.toNat) → Up L q p
theorem up_trans {L : List Nd} {r q p : Int} (h : Up L q p) (h2 : Up L r q) : Up L r p := by
  induction h with
  | here => exact h2
  | step h0 _ ih => exact .step h0 ih
/-- under p, so many elements deep, the next node may stand -/
structure Nw (root : Bool) (L : List Nd) (p : Int) (d : Nat) : Prop where
  rng : Rng L L.length
  gd : ∀ k, k < L.length → goodT L root k = true
  lo : -1 ≤ p
  hi : p < L.length
  up : Up L p ((L.length : Int) - 1)
  kp : p < 0 ∨ kin L p.toNat = 1 ∨ kin L p.toNat = 2
  dp : d = if p < 0 then 0 else depN L p.toNat
  dd : ∀ k, k < L.length → kin L k = 2 → depN L k ≤ 60
  bel : ∀ k : Nat, p < k → k < L.length → p ≤ par L k
  rp : root = true → 0 ≤ p ∧ ∀ k, k < L.length → par L k < 0 → k = 0
section
variable {root : Bool} {L : List Nd} {p : Int} {d : Nat}
theorem Nw.under (h : Nw root L p d) (hu : p < 0 ∨ kin L p.toNat = 2) (M : List Nd) : underB (L ++ M) p = true := by
  unfold underB
  rcases Int.lt_or_le p 0 with h0 | h0
  · rw [decide_eq_true h0]; rfl
  · have := h.hi
    rw [kin_app (by omega)]
    rcases hu with hk | hk
    · omega
    · rw [hk]; simp
/-- the last one that is no attribute is no text -/
def NT (L : List Nd) (p : Int) : Prop := lastC L p L.length < 0 ∨ kin L (lastC L p L.length).toNat ≠ 4
/-- into an element that has just been put -/
theorem Nw.into {nm : List UInt8} (h : Nw root (L ++ [(2, nm, [], p)]) p d) (hd : depN (L ++ [(2, nm, [], p)]) L.length = 1 + d) : Nw root (L ++ [(2, nm, [], p)]) (L.length : Int) (d + 1) := by
  have hlen : (L ++ [(2, nm, [], p)]).length = L.length + 1 := by simp
  refine ⟨h.rng, h.gd, by omega, by omega, ?_, .inr (.inr ?_), ?_, h.dd, fun k h1 h2 => by omega, fun hr => ⟨by omega, (h.rp hr).2⟩⟩
  · have e : (((L ++ [(2, nm, [], p)]).length : Nat) : Int) - 1 = (L.length : Int) := by rw [hlen]; omega
    rw [e]
    exact .here
  · rw [Int.toNat_natCast, kin_new]
  · rw [if_neg (by omega), Int.toNat_natCast, hd, Nat.add_comm]
/-- out of an element -/
theorem Nw.out {nm : List UInt8} {M : List Nd} (h0 : Nw root (L ++ [(2, nm, [], p)]) p d) (h : Nw root (L ++ [(2, nm, [], p)] ++ M) (L.length : Int) (d + 1)) : Nw root (L ++ [(2, nm, [], p)] ++ M) p d ∧ NT (L ++ [(2, nm, [], p)] ++ M) p := by
  have hlen : (L ++ [(2, nm, [], p)]).length = L.length + 1 := by simp
  have h1 := h0.hi
  have hpn : p < (L.length : Int) := by
    have := h0.rng L.length (by omega)
    rw [par_new] at this
    exact this.2
  have hlo := h0.lo
  have hpar : par (L ++ [(2, nm, [], p)] ++ M) L.length = p := by rw [par_app (by omega), par_new]
  have hkin : kin (L ++ [(2, nm, [], p)] ++ M) L.length = 2 := by rw [kin_app (by omega), kin_new]
  have hle : L.length + 1 ≤ (L ++ [(2, nm, [], p)] ++ M).length := by rw [List.length_append, hlen]; omega
  refine ⟨⟨h.rng, h.gd, hlo, by omega, ?_, ?_, ?_, h.dd, ?_, fun hr => ⟨(h0.rp hr).1, (h.rp hr).2⟩⟩, ?_⟩
  · refine up_trans h.up (.step (by omega) ?_)
    rw [Int.toNat_natCast, hpar]
    exact .here
  · rcases Int.lt_or_le p 0 with e | e
    · exact .inl e
    · rw [kin_app (by omega)]
      exact h0.kp
  · rw [h0.dp]
    by_cases hp0 : p < 0
    · rw [if_pos hp0, if_pos hp0]
    · rw [if_neg hp0, if_neg hp0, depN_app h0.rng (by omega)]
  · intro k hk1 hk2
    rcases Nat.lt_trichotomy k L.length with e | e | e
    · rw [par_app (by omega)]
      exact h0.bel k hk1 (by omega)
    · subst e; rw [hpar]; exact Int.le_refl _
    · have := h.bel k (by omega) hk2
      omega
  · have key : ∀ n, L.length + 1 ≤ n → n ≤ (L ++ [(2, nm, [], p)] ++ M).length → lastC (L ++ [(2, nm, [], p)] ++ M) p n = (L.length : Int) := by
      intro n
      induction n with
      | zero => intro h; omega
      | succ n ih =>
        intro h1 h2
        rw [lastC_step]
        by_cases e : n = L.length
        · subst e
          rw [if_pos ⟨hpar, by rw [hkin]; decide⟩]
        · have := h.bel n (by omega) (by omega)
          rw [if_neg (by omega), ih (by omega) (by omega)]
    refine .inr ?_
    rw [key _ hle (Nat.le_refl _), Int.toNat_natCast, hkin]
    decide
end
/-! ### a whole row -/
end Go.Proofs.YtemfmidhekdekaaGreatDoor.Ptr
namespace Go.Proofs.YtemfmidhekdekaaGreatDoor.Ppa
open Go Go.Lib Go.Proofs.YtemfmidhekdekaaGreatDoor.Ptr Go.Proofs.YtemfmidhekdekaaGreatDoor.Wps

def Ext (s s' : St) : Prop := ∃ M, s'.nodes = s.nodes ++ M
theorem Ext.refl (s : St) : Ext s s := ⟨[], by simp⟩
theorem Ext.trans {a b c : St} (h : Ext a b) (h2 : Ext b c) : Ext a c := by
  obtain ⟨M, h⟩ := h
  obtain ⟨K, h2⟩ := h2
  exact ⟨M ++ K, by rw [h2, h, List.append_assoc]⟩
section
variable {root : Bool} {s s' : St} {p : Int} {d N : Nat}
theorem flush_same (s : St) (p : Int) : (flush s p).twice = s.twice ∧ (flush s p).deep = s.deep := by
  unfold flush
  split <;> exact ⟨rfl, rfl⟩
theorem add_eq {x : Nd} (h3 : x.1 ≠ 3) (s : St) : (add s x).nodes = (flush s x.2.2.2).nodes ++ [x] ∧ (add s x).text = (flush s x.2.2.2).text ∧ (add s x).twice = s.twice ∧ (add s x).deep = s.deep := by
  have hf := flush_same s x.2.2.2
  unfold add
  rw [if_neg h3]
  exact ⟨rfl, rfl, hf.1, hf.2⟩
theorem said_ok {v : Bs} (h : Pch.textsL v = true) : Pch.textsL (said v) = true := said_texts v.length v (Nat.le_refl _) h
/-- an element that has attributes alone -/
structure At (root : Bool) (s : St) (q d : Nat) : Prop where
  nw : Nw root s.nodes (q : Int) d
  el : kin s.nodes q = 2
  la : lastC s.nodes (q : Int) s.nodes.length < 0
  tx : s.text = []
  ne : 0 < s.nodes.length
end
end Go.Proofs.YtemfmidhekdekaaGreatDoor.Ppa
namespace Go.Proofs.YtemfmidhekdekaaGreatDoor.Ppa
open Go Go.Lib Go.Proofs.YtemfmidhekdekaaGreatDoor.Ptr Go.Proofs.YtemfmidhekdekaaGreatDoor.Wps

/-! ### a document is right -/
/-! ### a fragment within an element -/
section
variable {A : List Nd} {s s1 s' : St} {N N1 : Nat}
end
theorem wrongF_none : ∀ (f k : Nat) (r : Bs), Pch.textsL r = true → wrongF f k r = none
  | 0, _, _, _ => rfl
  | f + 1, k, r, h => by
    by_cases hne : r = []
    · subst hne; exact wrong_end _ _
    · obtain ⟨a1, a2, a3⟩ := texts_step hne h
      rw [wrong_next hne a2 a1]
      exact wrongF_none f _ _ a3
theorem nameM_low (c d : UInt8) (t : Bs) (hc : c.toNat < 128) (hd : d.toNat < 128) (h1 : Pch.startB (c.toNat : Int) = true) (h2 : Pch.nameB (c.toNat : Int) = true) (h3 : Pch.nameB (d.toNat : Int) = false) : nameM (c :: d :: t) = .ok ([c], d :: t) := by
  rw [nameM_eq (by rw [peek_low c _ hc]; exact h1), show (c :: d :: t).length = (d :: t).length + 1 from rfl, nameF_step _ _ _ (by rw [peek_low c _ hc]; exact h2), decodeL_ascii c _ hc, skip_low c _ hc, if_neg (by show ¬ 100 < 0 + 1; decide), nameF_end _ _ _ (by rw [peek_low d _ hd]; exact h3)]
  rfl
end Go.Proofs.YtemfmidhekdekaaGreatDoor.Ppa
