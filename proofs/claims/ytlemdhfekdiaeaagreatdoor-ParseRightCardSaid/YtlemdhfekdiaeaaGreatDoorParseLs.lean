/- Plain: how long the texts of nodes are that a reading tells. Rows of nodes that are the same; a row that is turned; the chapter's first examples (awake). -/
import Derived.Test.YtlemdhfekdiaeaaGreatDoorParseAF
import Derived.Test.YtlemdhfekdiaeaaGreatDoorNodeKit
import Derived.WalkSmall
import Derived.Laws.StructEq
namespace Go.Proofs.YtlemdhfekdiaeaaGreatDoor.Ppa
open Go Go.Lib Go.Proofs.YtlemdhfekdiaeaaGreatDoor.Ptr Go.Proofs.YtlemdhfekdiaeaaGreatDoor.Wps

def lens (l : List Nd) : Nat := (l.map fun x => x.2.1.length + x.2.2.1.length).sum
/-- how much text is told, and how much is left -/
def tot (s : St) (r : Bs) : Nat := lens s.nodes + s.text.length + 4 * r.length
theorem lens_app (l m : List Nd) : lens (l ++ m) = lens l + lens m := by simp [lens]
theorem lens_one (x : Nd) : lens [x] = x.2.1.length + x.2.2.1.length := by simp [lens]
theorem lens_mem : ∀ {l : List Nd} {x : Nd}, x ∈ l → x.2.1.length + x.2.2.1.length ≤ lens l
  | y :: l, x, h => by
    rw [show y :: l = [y] ++ l from rfl, lens_app, lens_one]
    rcases List.mem_cons.1 h with rfl | h
    · omega
    · have := lens_mem h
      omega
theorem flush_tot (s : St) (p : Int) (r : Bs) : tot (flush s p) r ≤ tot s r := by
  unfold flush
  split
  · exact Nat.le_refl _
  · simp only [tot, lens_app, lens_one, List.length_nil]
    omega
theorem add_tot (s : St) (n : Nd) (r : Bs) : tot (add s n) r ≤ tot s r + n.2.1.length + n.2.2.1.length := by
  unfold add
  split
  · simp only [tot, lens_app, lens_one]
    omega
  · have := flush_tot s n.2.2.2 r
    simp only [tot, lens_app, lens_one] at this ⊢
    omega
theorem valF_tot (q : UInt8) : ∀ (f : Nat) (acc r v t : Bs), valF q f acc r = some (.ok (v, t)) → v.length + 4 * t.length ≤ acc.length + 4 * r.length
  | 0, _, _, _, _, h => by cases h
  | f + 1, acc, [], v, t, h => by rw [valF] at h; cases h
  | f + 1, acc, x :: u, v, t, h => by
    rw [valF] at h
    simp only [List.length_cons]
    split at h
    · injection h with h
      injection h with h
      injection h with h1 h2
      subst h1 h2
      omega
    · split at h
      · cases h
      · split at h
        · cases hr : refM u with
          | ok p =>
            obtain ⟨n, t'⟩ := p
            rw [hr] at h
            have h1 := valF_tot q f _ t' v t h
            have h2 := (refM_suf hr).length_le
            have h3 := encode_le n
            rw [List.length_append] at h1
            omega
          | error t' => rw [hr] at h; cases h
        · split at h
          · have h1 := valF_tot q f _ _ v t h
            have h2 := (nlL_suf u).length_le
            simp only [List.length_append, List.length_cons, List.length_nil] at h1
            omega
          · split at h
            · have h1 := valF_tot q f _ _ v t h
              simp only [List.length_append, List.length_cons, List.length_nil] at h1
              omega
            · have h1 := valF_tot q f _ _ v t h
              simp only [List.length_append, List.length_cons, List.length_nil] at h1
              omega
theorem valM_tot {r v t : Bs} (h : valM r = .ok (v, t)) : v.length + 4 * t.length ≤ 4 * r.length := by
  cases r with
  | nil => cases h
  | cons x u =>
    have h : (if x = 34 ∨ x = 39 then (match valF x (u.length + 1) [] u with | some o => o | none => Except.error []) else Except.error (x :: u)) = Except.ok (v, t) := h
    split at h
    · cases hv : valF x (u.length + 1) [] u with
      | none => rw [hv] at h; cases h
      | some o =>
        rw [hv] at h
        dsimp only at h
        subst h
        have := valF_tot x _ _ _ v t hv
        simp only [List.length_nil, List.length_cons] at this ⊢
        omega
    · cases h
theorem instrM_tot {p : Int} {r r' : Bs} {s s' : St} (h : instrM p r s = .ok (r', s')) : tot s' r' ≤ tot s r := by
  unfold instrM at h
  cases hn : nameM r with
  | error r1 => rw [hn] at h; cases h
  | ok q =>
    obtain ⟨nm, r1⟩ := q
    rw [hn] at h
    dsimp only at h
    have a2 := nameM_lt hn
    split at h
    · cases h
    · cases r1 with
      | nil => cases h
      | cons x u =>
        dsimp only at h
        split at h
        · cases hu : untilR [63, 62] (blanksL (x :: u)) with
          | error r2 => rw [hu] at h; cases h
          | ok q2 =>
            obtain ⟨v, r2⟩ := q2
            rw [hu] at h
            injection h with h
            injection h with h1 h2
            subst h1 h2
            have b1 := (blanksL_suf (x :: u)).length_le
            have b2 := congrArg List.length (untilR_ok hu)
            have b3 := said_le v
            have b4 := add_tot s (6, nm, said v, p) r2
            simp only [List.length_append, List.length_cons, List.length_nil] at b2
            unfold tot at b4 ⊢
            dsimp only at b4
            omega
        · split at h
          · cases hu : mustL [63, 62] (x :: u) with
            | error r2 => rw [hu] at h; cases h
            | ok r2 =>
              rw [hu] at h
              injection h with h
              injection h with h1 h2
              subst h1 h2
              have b1 := (mustL_suf hu).length_le
              have b4 := add_tot s (6, nm, [], p) r2
              unfold tot at b4 ⊢
              simp only [List.length_nil] at b4
              omega
          · cases h
theorem commM_tot {p : Int} {r r' : Bs} {s s' : St} (h : commM p r s = .ok (r', s')) : tot s' r' ≤ tot s r := by
  unfold commM at h
  cases hn : mustL [45] r with
  | error r1 => rw [hn] at h; cases h
  | ok r1 =>
    rw [hn] at h
    dsimp only at h
    cases hu : untilR [45, 45] r1 with
    | error r2 => rw [hu] at h; cases h
    | ok q =>
      obtain ⟨v, r2⟩ := q
      rw [hu] at h
      dsimp only at h
      cases hm : mustL [62] r2 with
      | error r3 => rw [hm] at h; cases h
      | ok r3 =>
        rw [hm] at h
        injection h with h
        injection h with h1 h2
        subst h1 h2
        have a1 := (mustL_suf hn).length_le
        have b2 := congrArg List.length (untilR_ok hu)
        have c1 := (mustL_suf hm).length_le
        have b3 := said_le v
        have b4 := add_tot s (5, [], said v, p) r3
        simp only [List.length_append, List.length_cons, List.length_nil] at b2
        unfold tot at b4 ⊢
        simp only [List.length_nil] at b4
        omega
theorem attrM_tot {N q : Nat} {r r' : Bs} {s s' : St} (h : attrM N q r s = .ok (r', s')) : tot s' r' ≤ tot s r := by
  unfold attrM at h
  cases hn : nameM r with
  | error r1 => rw [hn] at h; cases h
  | ok q1 =>
    obtain ⟨nm, r1⟩ := q1
    rw [hn] at h
    dsimp only at h
    have a2 := nameM_lt hn
    cases hm : mustL [61] (blanksL r1) with
    | error r2 => rw [hm] at h; cases h
    | ok r2 =>
      rw [hm] at h
      dsimp only at h
      cases hv : valM (blanksL r2) with
      | error r3 => rw [hv] at h; cases h
      | ok q3 =>
        obtain ⟨v, r3⟩ := q3
        rw [hv] at h
        injection h with h
        injection h with h1 h2
        subst h1 h2
        have l1 := ((mustL_suf hm).trans (blanksL_suf r1)).length_le
        have l2 := (blanksL_suf r2).length_le
        have l3 := valM_tot hv
        have b5 := add_tot { s with twice := if s.twice < 0 ∧ ((s.nodes.drop (q + 1)).any fun o => o.2.1 == nm) = true then (N : Int) - r.length else s.twice } (3, nm, v, (q : Int)) r3
        unfold tot at b5 ⊢
        dsimp only at b5
        omega
theorem attrsF_tot {N q : Nat} : ∀ (f : Nat) (r : Bs) (s : St) (r' : Bs) (s' : St), attrsF N q f r s = some (.ok (r', s')) → tot s' r' ≤ tot s r
  | 0, r, s, r', s', h => by cases h
  | f + 1, [], s, r', s', h => by
    rw [attrsF] at h
    injection h with h
    injection h with h
    injection h with h1 h2
    subst h1 h2
    exact Nat.le_refl _
  | f + 1, x :: t, s, r', s', h => by
    rw [attrsF] at h
    split at h
    · have hb := (blanksL_suf (x :: t)).length_le
      generalize blanksL (x :: t) = z at h hb
      have key : tot s z ≤ tot s (x :: t) := by unfold tot; omega
      split at h
      · injection h with h
        injection h with h
        injection h with h1 h2
        subst h1 h2
        exact key
      · injection h with h
        injection h with h
        injection h with h1 h2
        subst h1 h2
        exact key
      · cases ha : attrM N q z s with
        | error r2 => rw [ha] at h; cases h
        | ok q2 =>
          obtain ⟨r2, s2⟩ := q2
          rw [ha] at h
          dsimp only at h
          have a1 := attrM_tot ha
          have a2 := attrsF_tot f r2 s2 r' s' h
          omega
    · injection h with h
      injection h with h
      injection h with h1 h2
      subst h1 h2
      exact Nat.le_refl _
theorem elemS_tot (N : Nat) (p : Int) (d : Nat) (r nm : Bs) (s : St) (r' : Bs) : tot (elemS N p d r nm s) r' ≤ tot s r' + nm.length := by
  have := add_tot { s with deep := if 60 < d ∧ s.deep < 0 then (N : Int) - r.length - 1 else s.deep } (2, nm, [], p) r'
  unfold elemS
  unfold tot at this ⊢
  simp only [List.length_nil] at this
  omega
structure Kt (N f : Nat) : Prop where
  cont : ∀ (p : Int) (d run : Nat) (r : Bs) (s : St) (r' : Bs) (s' : St), contF N f p d run r s = some (.ok (r', s')) → tot s' r' ≤ tot s r
  mark : ∀ (p : Int) (d : Nat) (r : Bs) (s : St) (r' : Bs) (s' : St), markF N f p d r s = some (.ok (r', s')) → tot s' r' ≤ tot s r
  elem : ∀ (p : Int) (d : Nat) (r : Bs) (s : St) (r' : Bs) (s' : St), elemF N f p d r s = some (.ok (r', s')) → tot s' r' ≤ tot s r
theorem kt_cont {N f : Nat} (ih : Kt N f) (p : Int) (d run : Nat) (r : Bs) (s : St) (r' : Bs) (s' : St) (h : contF N (f + 1) p d run r s = some (.ok (r', s'))) : tot s' r' ≤ tot s r := by
  unfold contF at h
  cases r with
  | nil =>
    dsimp only at h
    split at h
    · injection h with h
      injection h with h
      injection h with h1 h2
      subst h1 h2
      exact flush_tot s p []
    · cases h
  | cons x t =>
    dsimp only at h
    split at h
    · cases h
    · split at h
      · split at h
        · rename_i hh
          injection h with h
          injection h with h
          injection h with h1 h2
          subst h1 h2
          have h1 := flush_tot s p t.tail
          have h2 : t.tail.length ≤ t.length := by rw [List.length_tail]; omega
          unfold tot at h1 ⊢
          simp only [List.length_cons]
          omega
        · cases hm : markF N f p d t s with
          | none => rw [hm] at h; cases h
          | some o =>
            rw [hm] at h
            cases o with
            | error r1 => cases h
            | ok q =>
              obtain ⟨r1, s1⟩ := q
              have h1 := ih.mark p d t s r1 s1 hm
              have h2 := ih.cont p d 0 r1 s1 r' s' h
              unfold tot at h1 h2 ⊢
              simp only [List.length_cons]
              omega
      · split at h
        · cases hr : refM t with
          | error r1 => rw [hr] at h; cases h
          | ok q =>
            obtain ⟨n, r1⟩ := q
            rw [hr] at h
            have a2 := (refM_suf hr).length_le
            have a3 := encode_le n
            have h2 := ih.cont p d 0 r1 _ r' s' h
            unfold tot at h2 ⊢
            simp only [List.length_append, List.length_cons] at h2 ⊢
            omega
        · split at h
          · have a2 := (nlL_suf t).length_le
            have h2 := ih.cont p d 0 _ _ r' s' h
            unfold tot at h2 ⊢
            simp only [List.length_append, List.length_cons, List.length_nil] at h2 ⊢
            omega
          · have h2 := ih.cont p d _ t _ r' s' h
            unfold tot at h2 ⊢
            simp only [List.length_append, List.length_cons, List.length_nil] at h2 ⊢
            omega
theorem kt_mark {N f : Nat} (ih : Kt N f) (p : Int) (d : Nat) (r : Bs) (s : St) (r' : Bs) (s' : St) (h : markF N (f + 1) p d r s = some (.ok (r', s'))) : tot s' r' ≤ tot s r := by
  unfold markF at h
  split at h
  · injection h with h
    have h1 := instrM_tot h
    unfold tot at h1 ⊢
    simp only [List.length_cons]
    omega
  · injection h with h
    have h1 := commM_tot h
    unfold tot at h1 ⊢
    simp only [List.length_cons]
    omega
  · rename_i t _
    injection h with h
    cases hm : mustL [91, 67, 68, 65, 84, 65, 91] t with
    | error r1 => rw [hm] at h; cases h
    | ok r1 =>
      rw [hm] at h
      dsimp only at h
      cases hu : untilR [93, 93, 62] r1 with
      | error r2 => rw [hu] at h; cases h
      | ok q =>
        obtain ⟨v, r2⟩ := q
        rw [hu] at h
        injection h with h
        injection h with h1 h2
        subst h1 h2
        have a1 := (mustL_suf hm).length_le
        have b2 := congrArg List.length (untilR_ok hu)
        have hs := said_le v
        simp only [List.length_append, List.length_cons, List.length_nil] at b2
        simp only [tot, List.length_append, List.length_cons]
        omega
  · exact ih.elem p (d + 1) r s r' s' h
theorem kt_elem {N f : Nat} (ih : Kt N f) (p : Int) (d : Nat) (r : Bs) (s : St) (r' : Bs) (s' : St) (h : elemF N (f + 1) p d r s = some (.ok (r', s'))) : tot s' r' ≤ tot s r := by
  rw [elemF_eq] at h
  cases hn : nameM r with
  | error r1 => rw [hn] at h; cases h
  | ok q =>
    obtain ⟨nm, r1⟩ := q
    rw [hn] at h
    dsimp only at h
    have a2 := nameM_lt hn
    have a4 := elemS_tot N p d r nm s r1
    have a5 : tot s r1 + nm.length ≤ tot s r := by unfold tot; omega
    generalize elemS N p d r nm s = s1 at h a4
    split at h
    · cases h
    · cases h
    · rename_i r2 s2 hat
      have b2 := attrsF_tot _ _ _ _ _ hat
      split at h
      · rename_i t
        injection h with h
        cases hm : mustL [62] t with
        | error r3 => rw [hm] at h; cases h
        | ok r3 =>
          rw [hm] at h
          injection h with h
          injection h with h1 h2
          subst h1 h2
          have c1 := (mustL_suf hm).length_le
          have c3 : tot s2 r3 ≤ tot s2 (47 :: t) := by unfold tot; simp only [List.length_cons]; omega
          omega
      · cases hm : mustL [62] r2 with
        | error r3 => rw [hm] at h; cases h
        | ok r3 =>
          rw [hm] at h
          dsimp only at h
          have c1 := (mustL_suf hm).length_le
          have c3 : tot s2 r3 ≤ tot s2 r2 := by unfold tot; omega
          split at h
          · cases h
          · cases h
          · rename_i r4 s4 hco
            have d2 := ih.cont _ _ _ _ _ _ _ hco
            injection h with h
            cases hcl : closeM nm r4 with
            | error r6 => rw [hcl] at h; cases h
            | ok r6 =>
              rw [hcl] at h
              injection h with h
              injection h with h1 h2
              subst h1 h2
              have e1 := (closeM_ok hcl).1.length_le
              have e3 : tot s4 r6 ≤ tot s4 r4 := by unfold tot; omega
              omega
theorem kt_all (N : Nat) : ∀ f, Kt N f
  | 0 => ⟨fun p d run r s r' s' h => (by unfold contF at h; cases h), fun p d r s r' s' h => (by unfold markF at h; cases h), fun p d r s r' s' h => (by unfold elemF at h; cases h)⟩
  | f + 1 => ⟨kt_cont (kt_all N f), kt_mark (kt_all N f), kt_elem (kt_all N f)⟩
theorem docF_tot {N : Nat} : ∀ (f : Nat) (done : Bool) (r : Bs) (s s' : St), docF N f done r s = some (.ok s') → lens s'.nodes ≤ tot s r
  | 0, done, r, s, s', h => by rw [docF] at h; cases h
  | f + 1, done, r, s, s', h => by
    have hb := (blanksL_suf r).length_le
    by_cases h0 : blanksL r = []
    · rw [docF_nil h0] at h
      split at h
      · injection h with h
        injection h with h
        subst h
        unfold tot
        omega
      · cases h
    · by_cases h60 : (blanksL r).head? = some 60
      · obtain ⟨t, ht⟩ := head_cons h60
        rw [ht] at hb
        simp only [List.length_cons] at hb
        by_cases h63 : t.head? = some 63
        · obtain ⟨u, rfl⟩ := head_cons h63
          rw [docF_pi ht] at h
          simp only [List.length_cons] at hb
          cases hi : instrM 0 u s with
          | error r' => rw [hi] at h; cases h
          | ok q =>
            obtain ⟨r', s1⟩ := q
            rw [hi] at h
            have h1 := instrM_tot hi
            have h2 := docF_tot f done r' s1 s' h
            unfold tot at h1 h2 ⊢
            omega
        · by_cases h33 : t.head? = some 33
          · obtain ⟨u, rfl⟩ := head_cons h33
            rw [docF_bang ht] at h
            simp only [List.length_cons] at hb
            cases hm : mustL [45] u with
            | error r' => rw [hm] at h; cases h
            | ok r1 =>
              rw [hm] at h
              dsimp only at h
              have l1 := (mustL_suf hm).length_le
              cases hi : commM 0 r1 s with
              | error r' => rw [hi] at h; cases h
              | ok q =>
                obtain ⟨r', s1⟩ := q
                rw [hi] at h
                have h1 := commM_tot hi
                have h2 := docF_tot f done r' s1 s' h
                unfold tot at h1 h2 ⊢
                omega
          · rw [docF_elem ht h63 h33] at h
            split at h
            · cases h
            · cases ho : elemF N f 0 1 t s with
              | none => rw [ho] at h; cases h
              | some o =>
                rw [ho] at h
                cases o with
                | error r' => cases h
                | ok q =>
                  obtain ⟨r', s1⟩ := q
                  have h1 := (kt_all N f).elem 0 1 t s r' s1 ho
                  have h2 := docF_tot f true r' s1 s' h
                  unfold tot at h1 h2 ⊢
                  omega
      · rw [docF_bad h0 h60] at h
        cases h
theorem docM_lens {N f : Nat} {l : Bs} {s : St} (h : docM N f l = some (.ok s)) : lens s.nodes ≤ 4 * l.length := by
  rw [docM_eq] at h
  split at h
  · cases hd : declM (l.drop 5) with
    | error r => rw [hd] at h; cases h
    | ok r =>
      rw [hd] at h
      have h1 := (declM_ok hd).1.length_le
      rw [List.length_drop] at h1
      have h2 := docF_tot f false r stR s h
      unfold tot stR lens at h2
      simp at h2
      unfold lens
      omega
  · have h2 := docF_tot f false l stR s h
    unfold tot stR lens at h2
    simp at h2
    unfold lens
    omega
theorem fragM_lens {N f : Nat} {l : Bs} {s : St} (h : fragM N f l = some (.ok s)) : lens s.nodes ≤ 4 * l.length := by
  unfold fragM at h
  cases hc : contF N f (-1) 0 0 l st0 with
  | none => rw [hc] at h; cases h
  | some o =>
    rw [hc] at h
    cases o with
    | error r => cases h
    | ok q =>
      obtain ⟨r, s1⟩ := q
      injection h with h
      injection h with h
      subst h
      have h2 := (kt_all N f).cont (-1) 0 0 l st0 r s1 hc
      unfold tot st0 lens at h2
      simp at h2
      unfold lens
      omega
theorem allM_cases {way : Nat → Nat → Bs → Option (Except Bs St)} {l : Bs} {L : List Nd} {x y : Int} (h : allM way l = (L, x, y)) : L = [] ∨ ∃ s, way l.length (fuel l.length) l = some (.ok s) ∧ L = s.nodes ∧ L.length ≤ 16384 := by
  unfold allM at h
  split at h
  · injection h with h; exact .inl h.symm
  · split at h
    · injection h with h; exact .inl h.symm
    · split at h
      · rename_i o ho
        cases o with
        | error r => injection h with h; exact .inl h.symm
        | ok s =>
          unfold toldM at h
          dsimp only at h
          split at h
          · injection h with h; exact .inl h.symm
          · split at h
            · injection h with h; exact .inl h.symm
            · split at h
              · injection h with h; exact .inl h.symm
              · rename_i hn
                injection h with h
                exact .inr ⟨s, ho, h.symm, by rw [← h]; omega⟩
      · injection h with h; exact .inl h.symm
theorem document_lens {l : Bs} {L : List Nd} {x y : Int} (h : documentL l = (L, x, y)) : L.length ≤ 16384 ∧ lens L ≤ 4 * l.length := by
  rcases allM_cases h with rfl | ⟨s, h1, rfl, h3⟩
  · exact ⟨by simp, by simp [lens]⟩
  · exact ⟨h3, docM_lens h1⟩
theorem fragment_lens {l : Bs} {L : List Nd} {x y : Int} (h : fragmentL l = (L, x, y)) : L.length ≤ 16384 ∧ lens L ≤ 4 * l.length := by
  rcases allM_cases h with rfl | ⟨s, h1, rfl, h3⟩
  · exact ⟨by simp, by simp [lens]⟩
  · exact ⟨h3, fragM_lens h1⟩
end Go.Proofs.YtlemdhfekdiaeaaGreatDoor.Ppa
namespace Go.Proofs.YtlemdhfekdiaeaaGreatDoor.Wps
open Go Go.RowKit Go.Proofs.YtlemdhfekdiaeaaGreatDoor.Kb Go.Proofs.YtlemdhfekdiaeaaGreatDoor.Wch Go.Proofs.YtlemdhfekdiaeaaGreatDoor.Wtr Go.Proofs.YtlemdhfekdiaeaaGreatDoor.Flt

theorem bel_drewN {B : Nat} {a w : World} (h : Below B a w) (n : Nat) : Below B a (w.drewN n) := h.trans ⟨rfl, rfl, rfl, Nat.le_refl _, fun _ _ => rfl⟩
theorem eql_nd (k : Int) (s t : ByteArray) (p : Int) (w : World) : (binOp .eql 35 (.agg #[.int .u8 k, .string s, .string t, .int .i64 p]) (.agg #[.int .u8 k, .string s, .string t, .int .i64 p])).run Tryz.prog w = .ok (.bool true) w := by
  have u0 := Tryz.underlying33
  have u1 := Tryz.underlying9
  have u3 := Tryz.underlying3
  have a0 := Tryz.isAgg33
  have a1 := Tryz.isAgg9
  have a3 := Tryz.isAgg3
  have hS : Tryz.prog.underlying 35 = some (.struct (Tryz.prog.fieldsOf 35)) := by kernel_rfl
  rw [run_eql_struct, show (10000 : Nat) = 9999 + 1 from rfl, run_equalIn_agg w 9999 35 _ _ hS (by kernel_rfl)]
  simp only [Program.fieldsOf, Tryz.underlying35]
  go_simp
  try simp
theorem neq_nd (k : Int) (s t : ByteArray) (p : Int) (w : World) : (binOp .neq 35 (.agg #[.int .u8 k, .string s, .string t, .int .i64 p]) (.agg #[.int .u8 k, .string s, .string t, .int .i64 p])).run Tryz.prog w = .ok (.bool false) w := by
  have h := eql_nd k s t p w
  rw [run_eql_struct] at h
  rw [run_neq_struct]
  revert h
  cases (Op.equalIn 10000 35 (.agg #[.int .u8 k, .string s, .string t, .int .i64 p]) (.agg #[.int .u8 k, .string s, .string t, .int .i64 p])).run Tryz.prog w with
  | ok b w' => intro h; simp at h ⊢; exact ⟨by simpa using h.1, h.2⟩
  | halt x w' => intro h; simp at h
set_option maxRecDepth 100000 in
set_option maxHeartbeats 1000000 in
theorem same_rd (L : List Ptr.Nd) (A1 A2 : Option Addr) (c1 c2 : Nat) (w : World) (h1 : RdN w A1 L) (h2 : RdN w A2 L) (hl : L.length ≤ 1000000) :
    Calls Tryz.prog 15 #[.slice A1 L.length c1, .slice A2 L.length c2] w fun e w' => e = .returned (.bool true) ∧ Below w.heap.size w w' := by
  have H1 := Kept.mk h1
  have H2 := Kept.mk h2
  clear h1 h2
  go_enter Tryz.func15, Tryz.ntmps15
  go_wp2
  go_loopw [5] (fun i wx => ∃ k : Nat, k ≤ L.length ∧ i = .int .i64 (k : Int) ∧ ∃ d, wx = w.drewN d) (fun i _ => L.length - (intOf i).toNat)
  case atStart => exact ⟨0, by omega, rfl, 0, rfl⟩
  case round =>
    obtain ⟨k, hk, rfl, d, rfl⟩ := hrel
    have k0 : (0 : Int) ≤ (k : Int) := by omega
    by_cases hlt : k < L.length
    · have k1 : (k : Int) < (L.length : Int) := by omega
      obtain ⟨g1, o1, rfl, x0, x1, x2, x3⟩ := H1.out.at_ hlt
      obtain ⟨g2, o2, rfl, y0, y1, y2, y3⟩ := H2.out.at_ hlt
      simp only at x0 x1 x2 x3 y0 y1 y2 y3
      have hE := neq_nd (Ptr.kin L k) ⟨(Ptr.nam L k).toArray⟩ ⟨(Ptr.val L k).toArray⟩ (Ptr.par L k)
      go_wp2
      go_quiet (fail)
      go_wp2
      go_roundw
      case rel => exact ⟨k + 1, by omega, by go_num, d + nq, rfl⟩
      case measure => simp [intOf]; omega
    · obtain rfl : k = L.length := by omega
      go_wp2
      go_ret
      exact ⟨rfl, bel_drewN (Below.refl _ _) _⟩
theorem eql_fault (x y : Int) (w : World) : (binOp .eql 26 (.agg #[.int .i64 x, .int .i64 y]) (.agg #[.int .i64 x, .int .i64 y])).run Tryz.prog w = .ok (.bool true) w := by
  have u0 := Tryz.underlying24
  have u1 := Tryz.underlying3
  have a0 := Tryz.isAgg24
  have a1 := Tryz.isAgg3
  have hS : Tryz.prog.underlying 26 = some (.struct (Tryz.prog.fieldsOf 26)) := by kernel_rfl
  rw [run_eql_struct, show (10000 : Nat) = 9999 + 1 from rfl, run_equalIn_agg w 9999 26 _ _ hS (by kernel_rfl)]
  simp only [Program.fieldsOf, Tryz.underlying26]
  go_simp
  try simp
def exN : List Ptr.Nd := [(1, [], [], -1), (2, [97], [], 0), (3, [120], [49, 60], 1), (4, [], [116], 1), (5, [], [99], 1), (2, [98], [], 1), (4, [], [117], 1)]
theorem exN_told : Ppa.documentL [60, 97, 32, 120, 61, 39, 49, 38, 108, 116, 59, 39, 62, 116, 60, 33, 45, 45, 99, 45, 45, 62, 60, 98, 47, 62, 38, 35, 120, 55, 53, 59, 60, 47, 97, 62] = (exN, 0, 0) := by kernel_rfl
theorem ex2_told : Ppa.documentL [60, 97, 62, 60, 47, 98, 62] = ([], 130, 5) := by kernel_rfl
theorem ex3_told : Ppa.fragmentL [120, 60, 97, 47, 62, 121] = ([(4, [], [120], -1), (2, [97], [], -1), (4, [], [121], -1)], 0, 0) := by kernel_rfl
set_option maxRecDepth 100000 in
theorem nodes_any (w : World) : Calls Tryz.prog 18 #[] w fun e w' => e = .returned (.slice (some ⟨w.heap.size, 0, none⟩) 7 7) ∧ RdN w' (some ⟨w.heap.size, 0, none⟩) exN ∧ Below w.heap.size w w' := by
  go_enter Tryz.func18, Tryz.ntmps18
  go_wp2
  go_ret
  exact ⟨rfl, rdn_lit w exN _, (Below.refl _ _).alloc (Nat.le_refl _) _⟩
theorem Fv.make (w : World) (x y : Int) : Fv w.heap.size x y (w.alloc (.cells #[.int .i64 x, .int .i64 y] 26)) := ⟨heap_alloc_new _ _⟩
theorem doc_call (l : Ppa.Bs) (L : List Ptr.Nd) (x y : Int) (k : Nat) (hm : Ppa.documentL l = (L, x, y)) (hk : L.length = k) (hl : l.length ≤ 1000000) (w : World) (he : Ev w) : Calls Tryz.prog 7 #[.string ⟨l.toArray⟩] w fun e w' => Below w.heap.size w w' ∧ ∃ A c, e = .returned (.tuple #[.slice A k c, .agg #[.int .i64 x, .int .i64 y]]) ∧ w'.ownsRow w.heap.size 35 4 (.slice A k c) k (ndsC L) := by
  subst hk
  have h := document_any ⟨l.toArray⟩ w he (by rw [Lib.size_mk]; exact hl)
  rw [show Ppa.documentL (⟨l.toArray⟩ : ByteArray).data.toList = (L, x, y) from hm] at h
  exact h
theorem frag_call (l : Ppa.Bs) (L : List Ptr.Nd) (x y : Int) (k : Nat) (hm : Ppa.fragmentL l = (L, x, y)) (hk : L.length = k) (hl : l.length ≤ 1000000) (w : World) (he : Ev w) : Calls Tryz.prog 9 #[.string ⟨l.toArray⟩] w fun e w' => Below w.heap.size w w' ∧ ∃ A c, e = .returned (.tuple #[.slice A k c, .agg #[.int .i64 x, .int .i64 y]]) ∧ w'.ownsRow w.heap.size 35 4 (.slice A k c) k (ndsC L) := by
  subst hk
  have h := fragment_any ⟨l.toArray⟩ w he (by rw [Lib.size_mk]; exact hl)
  rw [show Ppa.fragmentL (⟨l.toArray⟩ : ByteArray).data.toList = (L, x, y) from hm] at h
  exact h
theorem same_rd7 (A1 A2 : Option Addr) (c1 : Nat) (w : World) {B : Nat} (h1 : w.ownsRow B 35 4 (.slice A1 7 c1) 7 (ndsC exN)) (h2 : RdN w A2 exN) : Calls Tryz.prog 15 #[.slice A1 7 c1, .slice A2 7 7] w fun e w' => e = .returned (.bool true) ∧ Below w.heap.size w w' := same_rd exN A1 A2 c1 7 w (rdn_of_own h1) h2 (by decide)
theorem below_step {w w1 w2 : World} (h : Below w.heap.size w w1) (h' : Below w1.heap.size w1 w2) : Below w.heap.size w w2 := h.trans (h'.mono h.size)
set_option maxRecDepth 100000 in
set_option maxHeartbeats 2000000 in
theorem awake_any (w : World) (he : Ev w) : Calls Tryz.prog 6 #[] w fun e w' => e = .returned (.bool true) ∧ Below w.heap.size w w' := by
  have HE := Kept.mk he
  have q0 := fun wx => eql_fault 0 0 wx
  have q1 := fun wx => eql_fault 130 5 wx
  clear he
  go_enter Tryz.func6, Tryz.ntmps6
  go_wp2_with (fail)
  refine (doc_call [60, 97, 32, 120, 61, 39, 49, 38, 108, 116, 59, 39, 62, 116, 60, 33, 45, 45, 99, 45, 45, 62, 60, 98, 47, 62, 38, 35, 120, 55, 53, 59, 60, 47, 97, 62] _ 0 0 7 exN_told rfl (by decide) _ HE.out).mono ?_
  rintro e w1 ⟨hb1, A1, c1, rfl, ho1⟩
  have V1 := Fv.make w1 0 0
  have BA1 := (Below.refl w1.heap.size w1).alloc (Nat.le_refl _) (.cells #[.int .i64 0, .int .i64 0] 26)
  have B1 := Kept.mk (below_step hb1 BA1)
  have O1 := Kept.mk (Flt.own_below ho1 BA1)
  have E1 := Kept.mk (HE.out.below (below_step hb1 BA1))
  clear hb1 ho1 BA1
  go_wp2_with (fail)
  refine (doc_call [60, 97, 62, 60, 47, 98, 62] _ 130 5 0 ex2_told rfl (by decide) _ E1.out).mono ?_
  rintro e w2 ⟨hb2, A2, c2, rfl, ho2⟩
  have V2 := Fv.make w2 130 5
  have BA2 := (Below.refl w2.heap.size w2).alloc (Nat.le_refl _) (.cells #[.int .i64 130, .int .i64 5] 26)
  have B2 := Kept.mk (below_step (below_step B1.out hb2) BA2)
  have O2 := Kept.mk (Flt.own_below (Flt.own_below O1.out hb2) BA2)
  have E2 := Kept.mk (HE.out.below B2.out)
  have V1b := (V1.below hb2).below BA2
  clear hb2 ho2 BA2 V1
  go_wp2_with (fail)
  refine (frag_call [120, 60, 97, 47, 62, 121] _ 0 0 3 ex3_told rfl (by decide) _ E2.out).mono ?_
  rintro e w3 ⟨hb3, A3, c3, rfl, ho3⟩
  have V3 := Fv.make w3 0 0
  have BA3 := (Below.refl w3.heap.size w3).alloc (Nat.le_refl _) (.cells #[.int .i64 0, .int .i64 0] 26)
  have B3 := Kept.mk (below_step (below_step B2.out hb3) BA3)
  have O3 := Kept.mk (Flt.own_below (Flt.own_below O2.out hb3) BA3)
  have V1c := (V1b.below hb3).below BA3
  have V2c := (V2.below hb3).below BA3
  have a0 := V1c.c0
  have a1 := V1c.c1
  clear hb3 ho3 BA3 V1b V2
  go_wp2_with (fail)
  refine (nodes_any _).mono ?_
  rintro e w4 ⟨rfl, hr4, hb4⟩
  rw [show (w3.alloc (.cells #[.int .i64 0, .int .i64 0] 26)).heap.size = w3.heap.size + 1 by simp] at hr4
  have HR := Kept.mk hr4
  have O4 := Kept.mk (Flt.own_below O3.out hb4)
  have V2d := V2c.below hb4
  have V3d := V3.below hb4
  have B4 := Kept.mk (below_step B3.out hb4)
  clear hb4 hr4 V2c V3
  go_wp2_with (fail)
  refine (same_rd7 A1 _ c1 w4 O4.out HR.out).mono ?_
  rintro e w5 ⟨rfl, hb5⟩
  have V2e := V2d.below hb5
  have V3e := V3d.below hb5
  have B5 := Kept.mk (below_step B4.out hb5)
  have b0 := V2e.c0
  have b1 := V2e.c1
  have d0 := V3e.c0
  have d1 := V3e.c1
  clear hb5 V2d V3d
  go_wp2_with (fail)
  go_ret
  exact ⟨rfl, B5.out⟩
end Go.Proofs.YtlemdhfekdiaeaaGreatDoor.Wps
