/- Plain: what a reading leaves is an end of what was there; how much it tells; a right text stays right. -/
import Derived.Test.YtlemdhfekdiaeaaGreatDoorParseI
namespace Go.Proofs.YtlemdhfekdiaeaaGreatDoor.Ppa
open Go Go.Lib Go.Proofs.YtlemdhfekdiaeaaGreatDoor.Ptr Go.Proofs.YtlemdhfekdiaeaaGreatDoor.Wps

/-- how much is told, and how much is left -/
def meas (s : St) (r : Bs) : Nat := s.nodes.length + s.text.length + 4 * r.length
theorem texts_suf {r : Bs} {x : UInt8} {t : Bs} (h : Pch.textsL r = true) (hs : (x :: t) <:+ r) (hx : x.toNat < 128) : Pch.textsL (x :: t) = true := by
  obtain ⟨u, rfl⟩ := hs
  exact texts_at _ (u ++ x :: t) u.length x t (Nat.le_refl _) h (by simp) hx
theorem texts_tail {r : Bs} {x : UInt8} {t : Bs} (h : Pch.textsL r = true) (hs : (x :: t) <:+ r) (hx : x.toNat < 128) : Pch.textsL t = true := texts_low hx (texts_suf h hs hx)
theorem texts_lit : ∀ (a t : Bs), (∀ c ∈ a, c.toNat < 128) → Pch.textsL (a ++ t) = true → Pch.textsL t = true
  | [], _, _, h => h
  | c :: a, t, ha, h => texts_lit a t (fun z hz => ha z (by simp [hz])) (texts_low (ha c (by simp)) h)
theorem textsL_nil : Pch.textsL [] = true := rfl
theorem mustL_app : ∀ (a r t : Bs), mustL a r = .ok t → r = a ++ t
  | [], r, t, h => by injection h
  | c :: a, [], t, h => by cases h
  | c :: a, x :: u, t, h => by
    unfold mustL at h
    split at h
    · rename_i e
      rw [mustL_app a u t h, e]
      rfl
    · cases h
theorem mustL_suf {a r t : Bs} (h : mustL a r = .ok t) : t <:+ r := ⟨a, (mustL_app a r t h).symm⟩
theorem mustL_err : ∀ (a r t : Bs), mustL a r = .error t → t <:+ r
  | [], r, t, h => by cases h
  | c :: a, [], t, h => by injection h with h; rw [← h]; exact List.nil_suffix
  | c :: a, x :: u, t, h => by
    unfold mustL at h
    split at h
    · exact (mustL_err a u t h).trans (List.suffix_cons _ _)
    · injection h with h
      rw [← h]
      exact List.suffix_refl _
theorem blanksL_suf (r : Bs) : blanksL r <:+ r := List.dropWhile_suffix _
theorem blanksL_texts {r : Bs} (h : Pch.textsL r = true) : Pch.textsL (blanksL r) = true := by
  induction r with
  | nil => exact h
  | cons y t ih =>
    cases hb : blankH (y :: t) with
    | false => rw [blanksL_of_false hb]; exact h
    | true => rw [blanksL_of_true hb]; exact ih (texts_low (blankC_low hb) h)
theorem nameF_ok : ∀ (f k : Nat) (r : Bs) (m : Nat), nameF f k r = .ok m → k ≤ m ∧ (Pch.textsL r = true → Pch.textsL (r.drop (m - k)) = true) ∧ m ≤ k + r.length
  | 0, k, r, m, h => by
    injection h with h
    subst h
    exact ⟨Nat.le_refl _, fun h => by rw [Nat.sub_self, List.drop_zero]; exact h, by omega⟩
  | f + 1, k, r, m, h => by
    unfold nameF at h
    split at h
    · rename_i hb
      have hne := name_ne hb
      split at h
      · cases h
      · obtain ⟨h1, h2, h3⟩ := nameF_ok f _ _ m h
        have hle := decodeL_le r hne
        have hl : (skip r).length = r.length - (decodeL r).2 := by unfold skip; exact List.length_drop
        refine ⟨by omega, fun ht => ?_, by omega⟩
        have h4 := h2 (texts_step hne ht).2.2
        unfold skip at h4
        rw [List.drop_drop, show (decodeL r).2 + (m - (k + (decodeL r).2)) = m - k by omega] at h4
        exact h4
    · injection h with h
      subst h
      exact ⟨Nat.le_refl _, fun h => by rw [Nat.sub_self, List.drop_zero]; exact h, by omega⟩
theorem nameF_err : ∀ (f k : Nat) (r : Bs) (m : Nat), nameF f k r = .error m → k ≤ m ∧ m ≤ k + r.length
  | 0, k, r, m, h => by cases h
  | f + 1, k, r, m, h => by
    unfold nameF at h
    split at h
    · rename_i hb
      have hne := name_ne hb
      split at h
      · injection h with h
        omega
      · have h1 := nameF_err f _ _ m h
        have hle := decodeL_le r hne
        have hl : (skip r).length = r.length - (decodeL r).2 := by unfold skip; exact List.length_drop
        omega
    · cases h
theorem decodeL_four (l : Bs) : (decodeL l).2 ≤ 4 := by
  unfold decodeL
  rw [decode_at]
  unfold decodeN
  repeat' split
  all_goals simp
theorem start_ne {r : Bs} (h : Pch.startB (peek r) = true) : r ≠ [] := name_ne (Pch.name_of_start h)
theorem nameM_ok {r nm t : Bs} (h : nameM r = .ok (nm, t)) : r = nm ++ t ∧ 0 < nm.length ∧ (Pch.textsL r = true → Pch.textsL t = true) := by
  unfold nameM at h
  split at h
  · rename_i hst
    have hne := start_ne hst
    have hp := List.length_pos_iff.2 hne
    have hw := decodeL_width r
    have hw4 := decodeL_four r
    cases hk : nameF r.length 0 r with
    | ok k =>
      rw [hk] at h
      injection h with h
      injection h with h1 h2
      obtain ⟨a1, a2, a3⟩ := nameF_ok _ _ _ _ hk
      have hk1 : 1 ≤ k := by
        obtain ⟨n, hn⟩ : ∃ n, r.length = n + 1 := ⟨r.length - 1, by omega⟩
        rw [hn, nameF_step n 0 r (Pch.name_of_start hst), if_neg (by omega)] at hk
        have := (nameF_ok _ _ _ _ hk).1
        omega
      subst h1 h2
      refine ⟨(List.take_append_drop k r).symm, by rw [List.length_take]; omega, fun ht => ?_⟩
      have := a2 ht
      rw [Nat.sub_zero] at this
      exact this
    | error k =>
      rw [hk] at h
      cases h
  · cases h
theorem nameM_suf {r nm t : Bs} (h : nameM r = .ok (nm, t)) : t <:+ r := ⟨nm, (nameM_ok h).1.symm⟩
theorem nameM_lt {r nm t : Bs} (h : nameM r = .ok (nm, t)) : nm.length + t.length = r.length ∧ 0 < nm.length := by
  obtain ⟨h1, h2, _⟩ := nameM_ok h
  rw [h1, List.length_append]
  exact ⟨rfl, h2⟩
theorem untilM_app (e : Bs) : ∀ (r v t : Bs), untilM e r = some (v, t) → r = v ++ e ++ t
  | [], v, t, h => by
    unfold untilM at h
    split at h
    · rename_i he
      injection h with h
      injection h with h1 h2
      subst h1 h2 he
      rfl
    · cases h
  | x :: u, v, t, h => by
    unfold untilM at h
    split at h
    · rename_i hp
      injection h with h
      injection h with h1 h2
      obtain ⟨z, hz⟩ := List.isPrefixOf_iff_prefix.1 hp
      subst h1 h2
      rw [← hz]
      simp
    · cases hu : untilM e u with
      | none => rw [hu] at h; cases h
      | some q =>
        obtain ⟨v', t'⟩ := q
        rw [hu] at h
        injection h with h
        injection h with h1 h2
        have ih := untilM_app e u v' t' hu
        dsimp only at h1 h2
        rw [← h1, ← h2, ih]
        rfl
theorem untilR_ok {e r v t : Bs} (h : untilR e r = .ok (v, t)) : r = v ++ e ++ t := by
  unfold untilR at h
  cases hu : untilM e r with
  | none => rw [hu] at h; cases h
  | some q =>
    rw [hu] at h
    injection h with h
    subst h
    exact untilM_app e r v t hu
theorem untilR_suf {e r v t : Bs} (h : untilR e r = .ok (v, t)) : t <:+ r := ⟨v ++ e, (untilR_ok h).symm⟩
theorem untilR_texts {e r v t : Bs} (h : untilR e r = .ok (v, t)) (he : e ≠ []) (hl : ∀ c ∈ e, c.toNat < 128) (hr : Pch.textsL r = true) : Pch.textsL t = true := by
  cases e with
  | nil => exact absurd rfl he
  | cons c e =>
    have h1 := untilR_ok h
    have h2 : (c :: (e ++ t)) <:+ r := ⟨v, by rw [h1]; simp⟩
    exact texts_lit e t (fun z hz => hl z (by simp [hz])) (texts_tail hr h2 (hl c (by simp)))
theorem numG_suf {hex : Bool} : ∀ (r : Bs) (n : Nat) (any : Bool) (m : Nat) (t : Bs), numG hex n any r = .ok (m, t) → t <:+ r
  | [], n, any, m, t, h => by rw [numG] at h; cases h
  | y :: u, n, any, m, t, h => by
    cases hd : digO hex (y :: u) with
    | some d =>
      rw [numG_more hd] at h
      generalize n * (if hex = true then 16 else 10) + d = z at h
      split at h
      · cases h
      · exact (numG_suf u _ true m t h).trans (List.suffix_cons _ _)
    | none =>
      rw [numG_end hd] at h
      split at h
      · cases h
      · injection h with h
        injection h with h1 h2
        subst h1 h2
        exact List.suffix_cons _ _
theorem isM_suf {a r t : Bs} {n m : Nat} (h : isM a n r = .ok (m, t)) : t <:+ r := by
  unfold isM at h
  cases hm : mustL a r with
  | ok u =>
    rw [hm] at h
    injection h with h
    injection h with h1 h2
    subst h1 h2
    exact mustL_suf hm
  | error u => rw [hm] at h; cases h
theorem refM_suf {r t : Bs} {n : Nat} (h : refM r = .ok (n, t)) : t <:+ r := by
  by_cases h1 : r.head? = some 35
  · obtain ⟨u, rfl⟩ := head_cons h1
    rw [refM_num] at h
    refine List.IsSuffix.trans ?_ (List.suffix_cons _ _)
    by_cases hx : u.head? = some 120
    · obtain ⟨v, rfl⟩ := head_cons hx
      exact (numG_suf v 0 false n t h).trans (List.suffix_cons _ _)
    · have e : numM u = numG false 0 false u := by
        unfold numM
        split
        · exact absurd rfl hx
        · rfl
      rw [e] at h
      exact numG_suf u 0 false n t h
  · by_cases h2 : r.head? = some 108
    · obtain ⟨u, rfl⟩ := head_cons h2
      rw [refM_l] at h
      exact isM_suf h
    · by_cases h3 : r.head? = some 103
      · obtain ⟨u, rfl⟩ := head_cons h3
        rw [refM_g] at h
        exact isM_suf h
      · by_cases h4 : r.head? = some 113
        · obtain ⟨u, rfl⟩ := head_cons h4
          rw [refM_q] at h
          exact isM_suf h
        · by_cases h5 : r.head? = some 97
          · obtain ⟨u, rfl⟩ := head_cons h5
            by_cases h6 : u.head? = some 109
            · obtain ⟨v, rfl⟩ := head_cons h6
              rw [refM_am] at h
              exact (isM_suf h).trans (List.suffix_cons _ _)
            · rw [refM_a h6] at h
              exact (isM_suf h).trans (List.suffix_cons _ _)
          · rw [refM_none h1 h2 h3 h4 h5] at h
            cases h
theorem nlL_suf (t : Bs) : nlL t <:+ t := by
  unfold nlL
  split
  · exact List.suffix_cons _ _
  · exact List.suffix_refl _
theorem encode_le (n : Nat) : (encodeRune (n : Int)).length ≤ 4 := by
  have h := (runeCells_le (n : Int)).2
  rw [runeCells_length] at h
  exact h
theorem valF_suf (q : UInt8) : ∀ (f : Nat) (acc r v t : Bs), valF q f acc r = some (.ok (v, t)) → (q :: t) <:+ r
  | 0, _, _, _, _, h => by cases h
  | f + 1, acc, [], v, t, h => by rw [valF] at h; cases h
  | f + 1, acc, x :: u, v, t, h => by
    rw [valF] at h
    split at h
    · rename_i e
      injection h with h
      injection h with h
      injection h with h1 h2
      subst h1 h2 e
      exact List.suffix_refl _
    · split at h
      · cases h
      · split at h
        · cases hr : refM u with
          | ok p =>
            obtain ⟨n, t'⟩ := p
            rw [hr] at h
            exact ((valF_suf q f _ t' v t h).trans (refM_suf hr)).trans (List.suffix_cons _ _)
          | error t' => rw [hr] at h; cases h
        · split at h
          · exact ((valF_suf q f _ _ v t h).trans (nlL_suf _)).trans (List.suffix_cons _ _)
          · split at h
            · exact (valF_suf q f _ _ v t h).trans (List.suffix_cons _ _)
            · exact (valF_suf q f _ _ v t h).trans (List.suffix_cons _ _)
theorem valM_ok {r v t : Bs} (h : valM r = .ok (v, t)) : ∃ q u, r = q :: u ∧ (q = 34 ∨ q = 39) ∧ (q :: t) <:+ u := by
  cases r with
  | nil => cases h
  | cons x u =>
    have h : (if x = 34 ∨ x = 39 then (match valF x (u.length + 1) [] u with | some o => o | none => Except.error []) else Except.error (x :: u)) = Except.ok (v, t) := h
    split at h
    · rename_i hq
      refine ⟨x, u, rfl, hq, ?_⟩
      cases hv : valF x (u.length + 1) [] u with
      | none => rw [hv] at h; cases h
      | some o =>
        rw [hv] at h
        dsimp only at h
        subst h
        exact valF_suf x _ _ _ v t hv
    · cases h
theorem valM_suf {r v t : Bs} (h : valM r = .ok (v, t)) : t <:+ r := by
  obtain ⟨q, u, rfl, _, hs⟩ := valM_ok h
  exact ((List.suffix_cons _ _).trans hs).trans (List.suffix_cons _ _)
theorem valM_texts {r v t : Bs} (h : valM r = .ok (v, t)) (hr : Pch.textsL r = true) : Pch.textsL t = true := by
  obtain ⟨q, u, rfl, hq, hs⟩ := valM_ok h
  have hlow : q.toNat < 128 := by rcases hq with rfl | rfl <;> decide
  exact texts_tail (texts_low hlow hr) hs hlow
theorem flush_meas (s : St) (p : Int) (r : Bs) : meas (flush s p) r ≤ meas s r := by
  unfold flush
  split
  · exact Nat.le_refl _
  · rename_i h
    have := List.length_pos_iff.2 h
    simp only [meas, List.length_append, List.length_cons, List.length_nil]
    omega
theorem add_meas (s : St) (n : Nd) (r : Bs) : meas (add s n) r ≤ meas s r + 1 := by
  unfold add
  split
  · simp only [meas, List.length_append, List.length_cons, List.length_nil]
    omega
  · have := flush_meas s n.2.2.2 r
    simp only [meas, List.length_append, List.length_cons, List.length_nil] at this ⊢
    omega
theorem meas_less {s : St} {r r' : Bs} (h : r' <:+ r) : meas s r' ≤ meas s r := by
  have := h.length_le
  unfold meas
  omega
theorem meas_lt {s : St} {r r' : Bs} {k : Nat} (h : r'.length + k ≤ r.length) : meas s r' + 4 * k ≤ meas s r := by
  unfold meas
  omega
theorem said_le (v : Bs) : (said v).length ≤ v.length := said_length v
theorem low2 : ∀ c ∈ ([63, 62] : Bs), c.toNat < 128 := by decide
theorem instrM_ok {p : Int} {r r' : Bs} {s s' : St} (h : instrM p r s = .ok (r', s')) : r' <:+ r ∧ meas s' r' ≤ meas s r ∧ (Pch.textsL r = true → Pch.textsL r' = true) := by
  unfold instrM at h
  cases hn : nameM r with
  | error r1 => rw [hn] at h; cases h
  | ok q =>
    obtain ⟨nm, r1⟩ := q
    rw [hn] at h
    dsimp only at h
    have a1 := nameM_ok hn
    have a2 := nameM_lt hn
    have a3 := nameM_suf hn
    split at h
    · cases h
    · cases r1 with
      | nil => cases h
      | cons x u =>
        dsimp only at h
        split at h
        · cases hu : untilR [63, 62] (blanksL (x :: u)) with
          | error r2 => rw [hu] at h; cases h
          | ok q2 =>
            obtain ⟨v, r2⟩ := q2
            rw [hu] at h
            injection h with h
            injection h with h1 h2
            subst h1 h2
            have b1 := (untilR_suf hu).trans (blanksL_suf _)
            have b2 := add_meas s (6, nm, said v, p) r2
            have b3 := b1.length_le
            refine ⟨b1.trans a3, ?_, fun ht => untilR_texts hu (by simp) low2 (blanksL_texts (a1.2.2 ht))⟩
            have b4 := meas_lt (s := s) (r := r) (r' := r2) (k := 1) (by omega)
            omega
        · split at h
          · cases hu : mustL [63, 62] (x :: u) with
            | error r2 => rw [hu] at h; cases h
            | ok r2 =>
              rw [hu] at h
              injection h with h
              injection h with h1 h2
              subst h1 h2
              have b1 := mustL_suf hu
              have b2 := add_meas s (6, nm, [], p) r2
              have b3 := b1.length_le
              refine ⟨b1.trans a3, ?_, fun ht => mustL_texts _ _ _ low2 (a1.2.2 ht) hu⟩
              have b4 := meas_lt (s := s) (r := r) (r' := r2) (k := 1) (by omega)
              omega
          · cases h
theorem commM_ok {p : Int} {r r' : Bs} {s s' : St} (h : commM p r s = .ok (r', s')) : r' <:+ r ∧ meas s' r' ≤ meas s r ∧ (Pch.textsL r = true → Pch.textsL r' = true) := by
  unfold commM at h
  cases hn : mustL [45] r with
  | error r1 => rw [hn] at h; cases h
  | ok r1 =>
    rw [hn] at h
    dsimp only at h
    cases hu : untilR [45, 45] r1 with
    | error r2 => rw [hu] at h; cases h
    | ok q =>
      obtain ⟨v, r2⟩ := q
      rw [hu] at h
      dsimp only at h
      cases hm : mustL [62] r2 with
      | error r3 => rw [hm] at h; cases h
      | ok r3 =>
        rw [hm] at h
        injection h with h
        injection h with h1 h2
        subst h1 h2
        have a1 := mustL_suf hn
        have a2 := mustL_app _ _ _ hn
        have b1 := untilR_suf hu
        have c1 := mustL_suf hm
        have l1 := b1.length_le
        have l2 := c1.length_le
        have b2 := add_meas s (5, [], said v, p) r3
        refine ⟨(c1.trans b1).trans a1, ?_, fun ht => mustL_texts _ _ _ (by decide) (untilR_texts hu (by simp) (by decide) (mustL_texts _ _ _ (by decide) ht hn)) hm⟩
        have b4 := meas_lt (s := s) (r := r) (r' := r3) (k := 1) (by rw [a2]; simp; omega)
        omega
theorem attrM_ok {N q : Nat} {r r' : Bs} {s s' : St} (h : attrM N q r s = .ok (r', s')) : r' <:+ r ∧ meas s' r' ≤ meas s r ∧ (Pch.textsL r = true → Pch.textsL r' = true) ∧ s'.text = s.text ∧ s'.nodes.length = s.nodes.length + 1 := by
  unfold attrM at h
  cases hn : nameM r with
  | error r1 => rw [hn] at h; cases h
  | ok q1 =>
    obtain ⟨nm, r1⟩ := q1
    rw [hn] at h
    dsimp only at h
    have a1 := nameM_ok hn
    have a2 := nameM_lt hn
    have a3 := nameM_suf hn
    cases hm : mustL [61] (blanksL r1) with
    | error r2 => rw [hm] at h; cases h
    | ok r2 =>
      rw [hm] at h
      dsimp only at h
      cases hv : valM (blanksL r2) with
      | error r3 => rw [hv] at h; cases h
      | ok q3 =>
        obtain ⟨v, r3⟩ := q3
        rw [hv] at h
        injection h with h
        injection h with h1 h2
        subst h1 h2
        have b1 := (mustL_suf hm).trans (blanksL_suf r1)
        have c1 := (valM_suf hv).trans (blanksL_suf r2)
        have l1 := b1.length_le
        have l2 := c1.length_le
        refine ⟨(c1.trans b1).trans a3, ?_, fun ht => valM_texts hv (blanksL_texts (mustL_texts _ _ _ (by decide) (blanksL_texts (a1.2.2 ht)) hm)), rfl, by simp [add]⟩
        have b4 := meas_lt (s := s) (r := r) (r' := r3) (k := 1) (by omega)
        have b5 := add_meas { s with twice := if s.twice < 0 ∧ ((s.nodes.drop (q + 1)).any fun o => o.2.1 == nm) = true then (N : Int) - r.length else s.twice } (3, nm, v, (q : Int)) r3
        unfold meas at b4 b5 ⊢
        dsimp only at b5
        omega
theorem attrsF_ok {N q : Nat} : ∀ (f : Nat) (r : Bs) (s : St) (r' : Bs) (s' : St), attrsF N q f r s = some (.ok (r', s')) → r' <:+ r ∧ meas s' r' ≤ meas s r ∧ (Pch.textsL r = true → Pch.textsL r' = true) ∧ s'.text = s.text ∧ s.nodes.length ≤ s'.nodes.length
  | 0, r, s, r', s', h => by cases h
  | f + 1, [], s, r', s', h => by
    rw [attrsF] at h
    injection h with h
    injection h with h
    injection h with h1 h2
    subst h1 h2
    exact ⟨List.suffix_refl _, Nat.le_refl _, id, rfl, Nat.le_refl _⟩
  | f + 1, x :: t, s, r', s', h => by
    rw [attrsF] at h
    split at h
    · have hb := blanksL_suf (x :: t)
      have htx : Pch.textsL (x :: t) = true → Pch.textsL (blanksL (x :: t)) = true := blanksL_texts
      have hme := meas_less (s := s) hb
      generalize blanksL (x :: t) = z at h hb htx hme
      split at h
      · injection h with h
        injection h with h
        injection h with h1 h2
        subst h1 h2
        exact ⟨hb, hme, htx, rfl, Nat.le_refl _⟩
      · injection h with h
        injection h with h
        injection h with h1 h2
        subst h1 h2
        exact ⟨hb, hme, htx, rfl, Nat.le_refl _⟩
      · cases ha : attrM N q z s with
        | error r2 => rw [ha] at h; cases h
        | ok q2 =>
          obtain ⟨r2, s2⟩ := q2
          rw [ha] at h
          dsimp only at h
          obtain ⟨a1, a2, a3, a4, a5⟩ := attrM_ok ha
          obtain ⟨b1, b2, b3, b4, b5⟩ := attrsF_ok f r2 s2 r' s' h
          exact ⟨(b1.trans a1).trans hb, by omega, fun h => b3 (a3 (htx h)), b4.trans a4, by omega⟩
    · injection h with h
      injection h with h
      injection h with h1 h2
      subst h1 h2
      exact ⟨List.suffix_refl _, Nat.le_refl _, id, rfl, Nat.le_refl _⟩
end Go.Proofs.YtlemdhfekdiaeaaGreatDoor.Ppa
