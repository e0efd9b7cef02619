/- The program's parser beside a builder of its own: what keeps what; a value is never out of fuel. -/
import Derived.Test.YtlemdhfekdiaeaaGreatDoorParseF
import Derived.Test.YtlemdhfekdiaeaaGreatDoorParseT
import Derived.Test.YtlemdhfekdiaeaaGreatDoorEmbR
namespace Go.Proofs.YtlemdhfekdiaeaaGreatDoor.Wps
open Go Go.RowKit Go.Proofs.YtlemdhfekdiaeaaGreatDoor.Kb Go.Proofs.YtlemdhfekdiaeaaGreatDoor.Wch Go.Proofs.YtlemdhfekdiaeaaGreatDoor.Emk

/-- what turns nothing below B0 leaves a parser that lies below B0 -/
theorem Pa.low {B B0 b : Nat} {s : ByteArray} {x : List Value} {r : Ppa.Bs} {w w' : World} (h : Pa B b s x r w) (hb : Below B0 w w') (h1 : b < B0) (h2 : B ≤ B0) : Pa B b s x r w' :=
  ⟨(hb.block b h1).trans h.row, h.suf, h.ev.below (hb.mono h2), h.le, h.small⟩
theorem grown_low {w w1 w2 : World} {b : Nat} (h : w.grownBy w1 (some b)) (hb : Below w.heap.size w1 w2) : w.grownBy w2 (some b) :=
  ⟨hb.os.trans h.os, hb.tape.trans h.tape, hb.output.trans h.output, Nat.le_trans h.size hb.size, fun j hj hne => (hb.block j hj).trans (h.block j hj hne)⟩
/-- a builder keeps where only another block below it is turned -/
theorem Is_grown {T : TypeId} {pre post : List Value} {B c b : Nat} {acc : List UInt8} {w w' : World} (h : Is T pre post B c acc w) (hg : w.grownBy w' (some b)) (h1 : b < B) (h2 : B ≤ c) : Is T pre post B c acc w' := by
  have key : ∀ p, At T pre post B c p acc w → At T pre post B c p acc w' := by
    intro p hA
    have hl := hA.lt
    obtain ⟨v, hb, ho, hne⟩ := hA
    refine ⟨v, (hg.block c hl (by intro e; injection e with e; omega)).trans hb, ho.kept hg ?_, hne⟩
    cases hv : v.ownBlock with
    | none => exact .inl rfl
    | some g =>
      right
      intro e
      injection e with e
      have := (ho.lt g hv).1
      omega
  exact h.imp (key _) (key _)
theorem mustL_len : ∀ (a r t : Ppa.Bs), Ppa.mustL a r = .ok t → t.length ≤ r.length
  | [], r, t, h => by injection h with h; rw [h]; exact Nat.le_refl _
  | c :: a, [], t, h => by cases h
  | c :: a, x :: u, t, h => by
    unfold Ppa.mustL at h
    split at h
    · have := mustL_len a u t h
      simp only [List.length_cons]
      omega
    · cases h
theorem numG_ok {hex : Bool} : ∀ (r : Ppa.Bs) (n : Nat) (any : Bool) (m : Nat) (t : Ppa.Bs), Ppa.numG hex n any r = .ok (m, t) → t.length ≤ r.length ∧ (n ≤ 1114111 → m ≤ 1114111)
  | [], n, any, m, t, h => by rw [Ppa.numG] at h; cases h
  | y :: u, n, any, m, t, h => by
    cases hd : digO hex (y :: u) with
    | some d =>
      rw [numG_more hd] at h
      generalize n * (if hex = true then 16 else 10) + d = z at h
      by_cases hb : 1114111 < z
      · rw [if_pos hb] at h
        cases h
      · rw [if_neg hb, List.tail_cons] at h
        have := numG_ok u _ true m t h
        simp only [List.length_cons]
        exact ⟨by omega, fun _ => this.2 (by omega)⟩
    | none =>
      rw [numG_end hd] at h
      split at h
      · cases h
      · injection h with h
        injection h with h1 h2
        subst h1 h2
        simp
theorem isM_ok {a r t : Ppa.Bs} {n m : Nat} (h : isM a n r = .ok (m, t)) : t.length ≤ r.length ∧ m = n := by
  unfold isM at h
  cases hm : Ppa.mustL a r with
  | ok u =>
    rw [hm] at h
    injection h with h
    injection h with h1 h2
    subst h1 h2
    exact ⟨mustL_len a r u hm, rfl⟩
  | error u =>
    rw [hm] at h
    cases h
theorem refM_ok {r t : Ppa.Bs} {n : Nat} (h : Ppa.refM r = .ok (n, t)) : t.length ≤ r.length ∧ n ≤ 1114111 := by
  by_cases h1 : r.head? = some 35
  · obtain ⟨u, rfl⟩ := head_cons h1
    rw [refM_num] at h
    by_cases hx : u.head? = some 120
    · obtain ⟨v, rfl⟩ := head_cons hx
      have := numG_ok v 0 false n t h
      simp only [List.length_cons]
      exact ⟨by omega, this.2 (by omega)⟩
    · have e : Ppa.numM u = Ppa.numG false 0 false u := by
        unfold Ppa.numM
        split
        · exact absurd rfl hx
        · rfl
      rw [e] at h
      have := numG_ok u 0 false n t h
      simp only [List.length_cons]
      exact ⟨by omega, this.2 (by omega)⟩
  · by_cases h2 : r.head? = some 108
    · obtain ⟨u, rfl⟩ := head_cons h2
      rw [refM_l] at h
      have := isM_ok h
      exact ⟨this.1, by omega⟩
    · by_cases h3 : r.head? = some 103
      · obtain ⟨u, rfl⟩ := head_cons h3
        rw [refM_g] at h
        have := isM_ok h
        exact ⟨this.1, by omega⟩
      · by_cases h4 : r.head? = some 113
        · obtain ⟨u, rfl⟩ := head_cons h4
          rw [refM_q] at h
          have := isM_ok h
          exact ⟨this.1, by omega⟩
        · by_cases h5 : r.head? = some 97
          · obtain ⟨u, rfl⟩ := head_cons h5
            by_cases h6 : u.head? = some 109
            · obtain ⟨v, rfl⟩ := head_cons h6
              rw [refM_am] at h
              have := isM_ok h
              simp only [List.length_cons] at this ⊢
              exact ⟨by omega, by omega⟩
            · rw [refM_a h6] at h
              have := isM_ok h
              simp only [List.length_cons]
              exact ⟨by omega, by omega⟩
          · rw [refM_none h1 h2 h3 h4 h5] at h
            cases h
theorem mustL_texts : ∀ (a r t : Ppa.Bs), (∀ c ∈ a, c.toNat < 128) → Pch.textsL r = true → Ppa.mustL a r = .ok t → Pch.textsL t = true
  | [], r, t, _, h, hm => by injection hm with hm; rw [← hm]; exact h
  | c :: a, [], t, _, _, hm => by cases hm
  | c :: a, x :: u, t, ha, h, hm => by
    unfold Ppa.mustL at hm
    split at hm
    · rename_i e
      exact mustL_texts a u t (fun z hz => ha z (by simp [hz])) (Ppa.texts_low (by rw [e]; exact ha c (by simp)) h) hm
    · cases hm
theorem digO_low {hex : Bool} {d : Nat} {y : UInt8} {u : Ppa.Bs} (h : digO hex (y :: u) = some d) : y.toNat < 128 := by
  rcases Nat.lt_or_ge y.toNat 128 with hy | hy
  · exact hy
  · have h1 := digI_peek hex (y :: u)
    rw [h] at h1
    have h2 := peek_high y u hy
    have h3 : digI hex (Ppa.peek (y :: u)) = -1 := by
      unfold digI
      rw [if_neg (by omega), if_neg (by omega), if_neg (by omega)]
    rw [h3] at h1
    have h4 : (-1 : Int) = (d : Int) := h1
    omega
theorem numG_texts {hex : Bool} : ∀ (r : Ppa.Bs) (n : Nat) (any : Bool) (m : Nat) (t : Ppa.Bs), Pch.textsL r = true → Ppa.numG hex n any r = .ok (m, t) → Pch.textsL t = true
  | [], n, any, m, t, _, h => by rw [Ppa.numG] at h; cases h
  | y :: u, n, any, m, t, ht, h => by
    cases hd : digO hex (y :: u) with
    | some d =>
      have hlow := digO_low hd
      rw [numG_more hd] at h
      generalize n * (if hex = true then 16 else 10) + d = z at h
      by_cases hb : 1114111 < z
      · rw [if_pos hb] at h
        cases h
      · rw [if_neg hb, List.tail_cons] at h
        exact numG_texts u _ true m t (Ppa.texts_low hlow ht) h
    | none =>
      rw [numG_end hd] at h
      by_cases hc : any = false ∨ Ppa.peek (y :: u) ≠ 59 ∨ Pch.charB n = false
      · rw [if_pos hc] at h
        cases h
      · rw [if_neg hc] at h
        have hp : Ppa.peek (y :: u) = 59 := by
          apply Classical.byContradiction
          intro e
          exact hc (.inr (.inl e))
        have hy := (peek_is 59 (by decide) (y :: u)).1 hp
        injection hy with hy
        injection h with h
        injection h with h1 h2
        rw [← h2]
        exact Ppa.texts_low (by rw [hy]; decide) ht
theorem isM_texts {a r t : Ppa.Bs} {n m : Nat} (ha : ∀ c ∈ a, c.toNat < 128) (hr : Pch.textsL r = true) (h : isM a n r = .ok (m, t)) : Pch.textsL t = true := by
  unfold isM at h
  cases hm : Ppa.mustL a r with
  | ok u =>
    rw [hm] at h
    injection h with h
    injection h with h1 h2
    subst h1 h2
    exact mustL_texts a r u ha hr hm
  | error u =>
    rw [hm] at h
    cases h
theorem refM_texts {r t : Ppa.Bs} {n : Nat} (hr : Pch.textsL r = true) (h : Ppa.refM r = .ok (n, t)) : Pch.textsL t = true := by
  by_cases h1 : r.head? = some 35
  · obtain ⟨u, rfl⟩ := head_cons h1
    have hu := Ppa.texts_low (by decide) hr
    rw [refM_num] at h
    by_cases hx : u.head? = some 120
    · obtain ⟨v, rfl⟩ := head_cons hx
      exact numG_texts v 0 false n t (Ppa.texts_low (by decide) hu) h
    · have e : Ppa.numM u = Ppa.numG false 0 false u := by
        unfold Ppa.numM
        split
        · exact absurd rfl hx
        · rfl
      rw [e] at h
      exact numG_texts u 0 false n t hu h
  · by_cases h2 : r.head? = some 108
    · obtain ⟨u, rfl⟩ := head_cons h2
      rw [refM_l] at h
      exact isM_texts (by decide) hr h
    · by_cases h3 : r.head? = some 103
      · obtain ⟨u, rfl⟩ := head_cons h3
        rw [refM_g] at h
        exact isM_texts (by decide) hr h
      · by_cases h4 : r.head? = some 113
        · obtain ⟨u, rfl⟩ := head_cons h4
          rw [refM_q] at h
          exact isM_texts (by decide) hr h
        · by_cases h5 : r.head? = some 97
          · obtain ⟨u, rfl⟩ := head_cons h5
            have hu := Ppa.texts_low (by decide) hr
            by_cases h6 : u.head? = some 109
            · obtain ⟨v, rfl⟩ := head_cons h6
              rw [refM_am] at h
              exact isM_texts (by decide) hu h
            · rw [refM_a h6] at h
              exact isM_texts (by decide) hu h
          · rw [refM_none h1 h2 h3 h4 h5] at h
            cases h
theorem nlL_len (t : Ppa.Bs) : (Ppa.nlL t).length ≤ t.length := by
  unfold Ppa.nlL
  split
  · simp
  · exact Nat.le_refl _
theorem valF_some (q : UInt8) : ∀ (f : Nat) (acc r : Ppa.Bs), r.length < f → ∃ o, Ppa.valF q f acc r = some o
  | 0, _, _, h => by omega
  | f + 1, acc, [], _ => ⟨_, by rw [Ppa.valF]⟩
  | f + 1, acc, x :: t, h => by
    simp only [List.length_cons] at h
    rw [Ppa.valF]
    split
    · exact ⟨_, rfl⟩
    · split
      · exact ⟨_, rfl⟩
      · split
        · cases hr : Ppa.refM t with
          | ok p =>
            obtain ⟨n, t'⟩ := p
            have := (refM_ok hr).1
            exact valF_some q f _ t' (by omega)
          | error t' => exact ⟨_, rfl⟩
        · split
          · have := nlL_len t
            exact valF_some q f _ _ (by omega)
          · split
            · exact valF_some q f _ t (by omega)
            · exact valF_some q f _ t (by omega)
end Go.Proofs.YtlemdhfekdiaeaaGreatDoor.Wps
