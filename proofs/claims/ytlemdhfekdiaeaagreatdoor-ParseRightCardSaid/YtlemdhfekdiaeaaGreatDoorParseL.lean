/- Plain: contents and elements: what they leave; the fuel is enough. -/
import Derived.Test.YtlemdhfekdiaeaaGreatDoorParseJ
namespace Go.Proofs.YtlemdhfekdiaeaaGreatDoor.Ppa
open Go Go.Lib Go.Proofs.YtlemdhfekdiaeaaGreatDoor.Ptr Go.Proofs.YtlemdhfekdiaeaaGreatDoor.Wps

/-- the state behind an element's begin -/
def elemS (N : Nat) (p : Int) (d : Nat) (r nm : Bs) (s : St) : St := add { s with deep := if 60 < d ∧ s.deep < 0 then (N : Int) - r.length - 1 else s.deep } (2, nm, [], p)
theorem elemS_meas (N : Nat) (p : Int) (d : Nat) (r nm : Bs) (s : St) (r' : Bs) : meas (elemS N p d r nm s) r' ≤ meas s r' + 1 := add_meas { s with deep := if 60 < d ∧ s.deep < 0 then (N : Int) - r.length - 1 else s.deep } (2, nm, [], p) r'
/-- the end of an element, behind its content -/
def closeM (nm r : Bs) : Except Bs Bs := match againL nm r with
  | .error r5 => .error r5
  | .ok r5 => mustL [62] (blanksL r5)
theorem match47 {α : Type} {r2 : Bs} (h : ¬ ∃ t, r2 = 47 :: t) (g z : Bs → α) : (match (generalizing := false) r2 with | 47 :: t => g t | r2 => z r2) = z r2 := by
  split
  · exact absurd ⟨_, rfl⟩ h
  · rfl
/-- an element, by its parts -/
theorem elemF_eq (N f : Nat) (p : Int) (d : Nat) (r : Bs) (s : St) : elemF N (f + 1) p d r s = match nameM r with
    | .error r1 => some (.error r1)
    | .ok (nm, r1) => match attrsF N (elemS N p d r nm s).nodes.length.pred (f + 1) r1 (elemS N p d r nm s) with
      | none => none
      | some (.error r2) => some (.error r2)
      | some (.ok (r2, s2)) => match r2 with
        | 47 :: t => some (match mustL [62] t with | .ok r3 => .ok (r3, s2) | .error r3 => .error r3)
        | r2 => match mustL [62] r2 with
          | .error r3 => some (.error r3)
          | .ok r3 => match contF N f ((elemS N p d r nm s).nodes.length.pred : Int) d 0 r3 s2 with
            | none => none
            | some (.error r4) => some (.error r4)
            | some (.ok (r4, s4)) => some (match closeM nm r4 with | .error r6 => .error r6 | .ok r6 => .ok (r6, s4)) := by
  unfold elemF
  unfold elemS closeM
  cases nameM r with
  | error r1 => rfl
  | ok q =>
    obtain ⟨nm, r1⟩ := q
    dsimp only
    generalize add { s with deep := if 60 < d ∧ s.deep < 0 then (N : Int) - r.length - 1 else s.deep } (2, nm, [], p) = S
    generalize attrsF N S.nodes.length.pred (f + 1) r1 S = o
    cases o with
    | none => rfl
    | some o =>
      cases o with
      | error r2 => rfl
      | ok q2 =>
        obtain ⟨r2, s2⟩ := q2
        dsimp only
        by_cases h47 : ∃ t, r2 = 47 :: t
        · obtain ⟨t, rfl⟩ := h47
          rfl
        · refine (match47 h47 _ _).trans ?_
          refine Eq.trans ?_ (match47 h47 _ _).symm
          cases mustL [62] r2 with
          | error r3 => rfl
          | ok r3 =>
            dsimp only
            generalize contF N f (S.nodes.length.pred : Int) d 0 r3 s2 = o
            cases o with
            | none => rfl
            | some o =>
              cases o with
              | error r4 => rfl
              | ok q4 =>
                obtain ⟨r4, s4⟩ := q4
                dsimp only
                cases againL nm r4 with
                | error r5 => rfl
                | ok r5 => rfl
theorem againF_suf : ∀ (f : Nat) (n r t : Bs), againF f n r = .ok t → t <:+ r
  | 0, n, r, t, h => by injection h with h; rw [h]; exact List.suffix_refl _
  | f + 1, n, r, t, h => by
    unfold againF at h
    split at h
    · injection h with h
      rw [h]
      exact List.suffix_refl _
    · split at h
      · exact (againF_suf f _ _ t h).trans (List.drop_suffix _ _)
      · cases h
theorem peek_ne0 {r n : Bs} (hn : n ≠ []) (h : peek r = peek n) : r ≠ [] := by
  intro e
  subst e
  have h1 := (peek_lo n).1
  have h2 : peek n = ((decodeL n).1 : Int) := by unfold peek; rw [if_neg hn]
  have h3 : peek ([] : Bs) = -1 := rfl
  omega
theorem againF_texts : ∀ (f : Nat) (n r t : Bs), Pch.textsL r = true → againF f n r = .ok t → Pch.textsL t = true
  | 0, n, r, t, hr, h => by injection h with h; rw [← h]; exact hr
  | f + 1, n, r, t, hr, h => by
    unfold againF at h
    split at h
    · injection h with h
      rw [← h]
      exact hr
    · rename_i hn
      split at h
      · rename_i hp
        exact againF_texts f _ _ t (texts_step (peek_ne0 hn hp) hr).2.2 h
      · cases h
theorem closeM_ok {nm r r' : Bs} (h : closeM nm r = .ok r') : r' <:+ r ∧ (Pch.textsL r = true → Pch.textsL r' = true) := by
  unfold closeM at h
  cases ha : againL nm r with
  | error r5 => rw [ha] at h; cases h
  | ok r5 =>
    rw [ha] at h
    dsimp only at h
    refine ⟨((mustL_suf h).trans (blanksL_suf _)).trans (againF_suf _ _ _ _ ha), fun ht => mustL_texts _ _ _ (by decide) (blanksL_texts (againF_texts _ _ _ _ ht ha)) h⟩
/-- what is claimed of a content, of markup and of an element -/
structure Kc (N f : Nat) : Prop where
  cont : ∀ (p : Int) (d run : Nat) (r : Bs) (s : St) (r' : Bs) (s' : St), contF N f p d run r s = some (.ok (r', s')) → r' <:+ r ∧ meas s' r' ≤ meas s r ∧ ((p < 0 ∧ r' = []) ∨ (0 ≤ p ∧ (47 :: r') <:+ r))
  mark : ∀ (p : Int) (d : Nat) (r : Bs) (s : St) (r' : Bs) (s' : St), markF N f p d r s = some (.ok (r', s')) → r' <:+ r ∧ meas s' r' ≤ meas s r ∧ (Pch.textsL r = true → Pch.textsL r' = true)
  elem : ∀ (p : Int) (d : Nat) (r : Bs) (s : St) (r' : Bs) (s' : St), elemF N f p d r s = some (.ok (r', s')) → r' <:+ r ∧ meas s' r' ≤ meas s r ∧ (Pch.textsL r = true → Pch.textsL r' = true)
theorem kc_cont {N f : Nat} (ih : Kc N f) (p : Int) (d run : Nat) (r : Bs) (s : St) (r' : Bs) (s' : St) (h : contF N (f + 1) p d run r s = some (.ok (r', s'))) : r' <:+ r ∧ meas s' r' ≤ meas s r ∧ ((p < 0 ∧ r' = []) ∨ (0 ≤ p ∧ (47 :: r') <:+ r)) := by
  unfold contF at h
  cases r with
  | nil =>
    dsimp only at h
    split at h
    · rename_i hp
      injection h with h
      injection h with h
      injection h with h1 h2
      subst h1 h2
      exact ⟨List.suffix_refl _, flush_meas s p [], .inl ⟨hp, rfl⟩⟩
    · cases h
  | cons x t =>
    have hxt : t <:+ x :: t := List.suffix_cons _ _
    have more : ∀ (r1 : Bs) (s1 : St) (run1 : Nat), r1 <:+ t → meas s1 r1 ≤ meas s (x :: t) → contF N f p d run1 r1 s1 = some (.ok (r', s')) → r' <:+ x :: t ∧ meas s' r' ≤ meas s (x :: t) ∧ ((p < 0 ∧ r' = []) ∨ (0 ≤ p ∧ (47 :: r') <:+ x :: t)) := by
      intro r1 s1 run1 h1 h2 h3
      obtain ⟨a1, a2, a3⟩ := ih.cont p d run1 r1 s1 r' s' h3
      refine ⟨(a1.trans h1).trans hxt, by omega, ?_⟩
      rcases a3 with a3 | ⟨a3, a4⟩
      · exact .inl a3
      · exact .inr ⟨a3, (a4.trans h1).trans hxt⟩
    dsimp only at h
    split at h
    · cases h
    · split at h
      · split at h
        · rename_i hh
          injection h with h
          injection h with h
          injection h with h1 h2
          obtain ⟨hp, hh⟩ := hh
          obtain ⟨u, rfl⟩ := head_cons hh
          subst h1 h2
          refine ⟨(List.suffix_cons _ _).trans hxt, ?_, .inr ⟨hp, hxt⟩⟩
          have h1 := flush_meas s p u
          unfold meas at h1 ⊢
          simp only [List.tail_cons, List.length_cons]
          omega
        · cases hm : markF N f p d t s with
          | none => rw [hm] at h; cases h
          | some o =>
            rw [hm] at h
            cases o with
            | error r1 => cases h
            | ok q =>
              obtain ⟨r1, s1⟩ := q
              obtain ⟨a1, a2, _⟩ := ih.mark p d t s r1 s1 hm
              refine more r1 s1 0 a1 ?_ h
              have := meas_less (s := s) hxt
              omega
      · split at h
        · cases hr : refM t with
          | error r1 => rw [hr] at h; cases h
          | ok q =>
            obtain ⟨n, r1⟩ := q
            rw [hr] at h
            have a1 := refM_suf hr
            have a2 := a1.length_le
            have a3 := encode_le n
            refine more r1 _ 0 a1 ?_ h
            simp only [meas, List.length_append, List.length_cons]
            omega
        · split at h
          · have a1 := nlL_suf t
            have a2 := a1.length_le
            refine more _ _ 0 a1 ?_ h
            simp only [meas, List.length_append, List.length_cons, List.length_nil]
            omega
          · refine more t _ _ (List.suffix_refl _) ?_ h
            simp only [meas, List.length_append, List.length_cons, List.length_nil]
            omega
theorem kc_mark {N f : Nat} (ih : Kc N f) (p : Int) (d : Nat) (r : Bs) (s : St) (r' : Bs) (s' : St) (h : markF N (f + 1) p d r s = some (.ok (r', s'))) : r' <:+ r ∧ meas s' r' ≤ meas s r ∧ (Pch.textsL r = true → Pch.textsL r' = true) := by
  unfold markF at h
  split at h
  · rename_i t
    injection h with h
    obtain ⟨a1, a2, a3⟩ := instrM_ok h
    have := meas_less (s := s) (List.suffix_cons 63 t)
    exact ⟨a1.trans (List.suffix_cons _ _), by omega, fun ht => a3 (texts_low (by decide) ht)⟩
  · rename_i t
    injection h with h
    obtain ⟨a1, a2, a3⟩ := commM_ok h
    have h1 : t <:+ 33 :: 45 :: t := (List.suffix_cons _ _).trans (List.suffix_cons _ _)
    have := meas_less (s := s) h1
    exact ⟨a1.trans h1, by omega, fun ht => a3 (texts_low (by decide) (texts_low (by decide) ht))⟩
  · rename_i t _
    injection h with h
    cases hm : mustL [91, 67, 68, 65, 84, 65, 91] t with
    | error r1 => rw [hm] at h; cases h
    | ok r1 =>
      rw [hm] at h
      dsimp only at h
      cases hu : untilR [93, 93, 62] r1 with
      | error r2 => rw [hu] at h; cases h
      | ok q =>
        obtain ⟨v, r2⟩ := q
        rw [hu] at h
        injection h with h
        injection h with h1 h2
        subst h1 h2
        have a1 := mustL_suf hm
        have b1 := untilR_suf hu
        have b2 := untilR_ok hu
        have l1 := a1.length_le
        have hxt : t <:+ 33 :: t := List.suffix_cons _ _
        refine ⟨(b1.trans a1).trans hxt, ?_, fun ht => untilR_texts hu (by simp) (by decide) (mustL_texts _ _ _ (by decide) (texts_low (by decide) ht) hm)⟩
        have hs := said_le v
        have hz : r1.length = v.length + 3 + r2.length := by rw [b2]; simp; omega
        simp only [meas, List.length_append, List.length_cons]
        omega
  · exact ih.elem p (d + 1) r s r' s' h
theorem kc_elem {N f : Nat} (ih : Kc N f) (p : Int) (d : Nat) (r : Bs) (s : St) (r' : Bs) (s' : St) (h : elemF N (f + 1) p d r s = some (.ok (r', s'))) : r' <:+ r ∧ meas s' r' ≤ meas s r ∧ (Pch.textsL r = true → Pch.textsL r' = true) := by
  rw [elemF_eq] at h
  cases hn : nameM r with
  | error r1 => rw [hn] at h; cases h
  | ok q =>
    obtain ⟨nm, r1⟩ := q
    rw [hn] at h
    dsimp only at h
    have a1 := nameM_suf hn
    have a2 := nameM_lt hn
    have a3 := (nameM_ok hn).2.2
    have a4 := elemS_meas N p d r nm s r1
    have a5 := meas_lt (s := s) (r := r) (r' := r1) (k := 1) (by omega)
    generalize elemS N p d r nm s = s1 at h a4
    split at h
    · cases h
    · cases h
    · rename_i r2 s2 hat
      obtain ⟨b1, b2, b3, _, _⟩ := attrsF_ok _ _ _ _ _ hat
      split at h
      · rename_i t
        injection h with h
        cases hm : mustL [62] t with
        | error r3 => rw [hm] at h; cases h
        | ok r3 =>
          rw [hm] at h
          injection h with h
          injection h with h1 h2
          subst h1 h2
          have c1 := mustL_suf hm
          have c2 := c1.trans (List.suffix_cons 47 t)
          have c3 := meas_less (s := s2) c2
          exact ⟨(c2.trans b1).trans a1, by omega, fun ht => mustL_texts _ _ _ (by decide) (texts_low (by decide) (b3 (a3 ht))) hm⟩
      · cases hm : mustL [62] r2 with
        | error r3 => rw [hm] at h; cases h
        | ok r3 =>
          rw [hm] at h
          dsimp only at h
          have c1 := mustL_suf hm
          have c3 := meas_less (s := s2) c1
          split at h
          · cases h
          · cases h
          · rename_i r4 s4 hco
            obtain ⟨d1, d2, d3⟩ := ih.cont _ _ _ _ _ _ _ hco
            injection h with h
            cases hcl : closeM nm r4 with
            | error r6 => rw [hcl] at h; cases h
            | ok r6 =>
              rw [hcl] at h
              injection h with h
              injection h with h1 h2
              subst h1 h2
              obtain ⟨e1, e2⟩ := closeM_ok hcl
              have e3 := meas_less (s := s4) e1
              refine ⟨(((e1.trans d1).trans c1).trans b1).trans a1, by omega, fun ht => e2 ?_⟩
              rcases d3 with ⟨d3, _⟩ | ⟨_, d3⟩
              · exfalso; omega
              · exact texts_tail (mustL_texts _ _ _ (by decide) (b3 (a3 ht)) hm) d3 (by decide)
theorem kc_all (N : Nat) : ∀ f, Kc N f
  | 0 => ⟨fun p d run r s r' s' h => (by unfold contF at h; cases h), fun p d r s r' s' h => (by unfold markF at h; cases h), fun p d r s r' s' h => (by unfold elemF at h; cases h)⟩
  | f + 1 => ⟨kc_cont (kc_all N f), kc_mark (kc_all N f), kc_elem (kc_all N f)⟩
/-! ### the fuel -/
theorem attrsF_some {N q : Nat} : ∀ (f : Nat) (r : Bs) (s : St), r.length < f → ∃ o, attrsF N q f r s = some o
  | 0, r, s, h => by omega
  | f + 1, [], s, h => ⟨_, by rw [attrsF]⟩
  | f + 1, x :: t, s, h => by
    rw [attrsF]
    split
    · rename_i hbl
      have hb : (blanksL (x :: t)).length ≤ t.length := by
        rw [blanksL_of_true (y := x) (t := t) hbl]
        exact (blanksL_suf t).length_le
      generalize blanksL (x :: t) = z at hb
      split
      · exact ⟨_, rfl⟩
      · exact ⟨_, rfl⟩
      · cases ha : attrM N q z s with
        | error r2 => exact ⟨_, rfl⟩
        | ok q2 =>
          obtain ⟨r2, s2⟩ := q2
          have := (attrM_ok ha).1.length_le
          exact attrsF_some f r2 s2 (by simp only [List.length_cons] at h; omega)
    · exact ⟨_, rfl⟩
structure Kd (N f : Nat) : Prop where
  cont : ∀ (p : Int) (d run : Nat) (r : Bs) (s : St), 3 * r.length + 1 ≤ f → ∃ o, contF N f p d run r s = some o
  mark : ∀ (p : Int) (d : Nat) (r : Bs) (s : St), 3 * r.length + 3 ≤ f → ∃ o, markF N f p d r s = some o
  elem : ∀ (p : Int) (d : Nat) (r : Bs) (s : St), 3 * r.length + 2 ≤ f → ∃ o, elemF N f p d r s = some o
theorem kd_all (N : Nat) : ∀ f, Kd N f
  | 0 => ⟨fun p d run r s h => by omega, fun p d r s h => by omega, fun p d r s h => by omega⟩
  | f + 1 => by
    have ih := kd_all N f
    refine ⟨fun p d run r s h => ?_, fun p d r s h => ?_, fun p d r s h => ?_⟩
    · unfold contF
      cases r with
      | nil =>
        dsimp only
        split <;> exact ⟨_, rfl⟩
      | cons x t =>
        simp only [List.length_cons] at h
        dsimp only
        split
        · exact ⟨_, rfl⟩
        · split
          · split
            · exact ⟨_, rfl⟩
            · obtain ⟨o, ho⟩ := ih.mark p d t s (by omega)
              rw [ho]
              cases o with
              | error r1 => exact ⟨_, rfl⟩
              | ok q =>
                obtain ⟨r1, s1⟩ := q
                have := ((kc_all N f).mark p d t s r1 s1 ho).1.length_le
                exact ih.cont p d 0 r1 s1 (by omega)
          · split
            · cases hr : refM t with
              | error r1 => exact ⟨_, rfl⟩
              | ok q =>
                obtain ⟨n, r1⟩ := q
                have := (refM_suf hr).length_le
                exact ih.cont p d 0 r1 _ (by omega)
            · split
              · have := (nlL_suf t).length_le
                exact ih.cont p d 0 _ _ (by omega)
              · exact ih.cont p d _ t _ (by omega)
    · unfold markF
      split
      · exact ⟨_, rfl⟩
      · exact ⟨_, rfl⟩
      · exact ⟨_, rfl⟩
      · exact ih.elem p (d + 1) r s (by omega)
    · rw [elemF_eq]
      cases hn : nameM r with
      | error r1 => exact ⟨_, rfl⟩
      | ok q =>
        obtain ⟨nm, r1⟩ := q
        dsimp only
        have a2 := nameM_lt hn
        obtain ⟨o, ho⟩ := attrsF_some (N := N) (q := (elemS N p d r nm s).nodes.length.pred) (f + 1) r1 (elemS N p d r nm s) (by omega)
        rw [ho]
        cases o with
        | error r2 => exact ⟨_, rfl⟩
        | ok q2 =>
          obtain ⟨r2, s2⟩ := q2
          have b1 := (attrsF_ok _ _ _ _ _ ho).1.length_le
          dsimp only
          split
          · exact ⟨_, rfl⟩
          · cases hm : mustL [62] r2 with
            | error r3 => exact ⟨_, rfl⟩
            | ok r3 =>
              dsimp only
              have c1 := (mustL_suf hm).length_le
              obtain ⟨o2, ho2⟩ := ih.cont ((elemS N p d r nm s).nodes.length.pred : Int) d 0 r3 s2 (by omega)
              rw [ho2]
              cases o2 with
              | error r4 => exact ⟨_, rfl⟩
              | ok q4 => exact ⟨_, rfl⟩
end Go.Proofs.YtlemdhfekdiaeaaGreatDoor.Ppa
