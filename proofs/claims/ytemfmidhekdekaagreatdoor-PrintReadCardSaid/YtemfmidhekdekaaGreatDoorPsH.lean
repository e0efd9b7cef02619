/- Joined texts: ParseKx, ParseRa, ParseRb, ParseRc, ParseRd. -/
import Derived.Test.YtemfmidhekdekaaGreatDoorPsG
namespace Go.Proofs.YtemfmidhekdekaaGreatDoor.Ppa
open Go Go.Lib Go.Proofs.YtemfmidhekdekaaGreatDoor.Ptr Go.Proofs.YtemfmidhekdekaaGreatDoor.Wps

theorem dec_app {r : Bs} (z : Bs) (hne : r ≠ []) (h : Pch.textsL r = true) : decodeL (r ++ z) = decodeL r := Pch.decode_app r z hne (texts_step hne h).1
theorem peek_app {r : Bs} (z : Bs) (hne : r ≠ []) (h : Pch.textsL r = true) : peek (r ++ z) = peek r := by
  rw [peek_has hne, peek_has (by simp [hne]), dec_app z hne h]
theorem skip_app {r : Bs} (z : Bs) (hne : r ≠ []) (h : Pch.textsL r = true) : skip (r ++ z) = skip r ++ z := by
  unfold skip
  rw [dec_app z hne h, List.drop_append_of_le_length (decodeL_le r hne)]
theorem mustL_app_ok (z : Bs) : ∀ (a r t : Bs), mustL a r = .ok t → mustL a (r ++ z) = .ok (t ++ z)
  | [], r, t, h => by injection h with h; rw [h]; rfl
  | c :: a, [], t, h => by cases h
  | c :: a, x :: u, t, h => by
    rw [List.cons_append]
    unfold mustL at h ⊢
    split at h
    · rename_i e
      rw [if_pos e]
      exact mustL_app_ok z a u t h
    · cases h
theorem mustL_app_no (z : Bs) : ∀ (a r t : Bs), mustL a r = .error t → t ≠ [] → mustL a (r ++ z) = .error (t ++ z)
  | [], r, t, h, _ => by cases h
  | c :: a, [], t, h, hn => by injection h with h; exact absurd h.symm hn
  | c :: a, x :: u, t, h, hn => by
    rw [List.cons_append]
    unfold mustL at h ⊢
    split at h
    · rename_i e
      rw [if_pos e]
      exact mustL_app_no z a u t h hn
    · rename_i e
      injection h with h
      rw [if_neg e, ← h]
      rfl
theorem blanksL_app (z : Bs) : ∀ (r : Bs), blanksL r ≠ [] → blanksL (r ++ z) = blanksL r ++ z
  | [], h => absurd rfl h
  | x :: u, h => by
    unfold blanksL at h ⊢
    rw [List.cons_append, List.dropWhile_cons, List.dropWhile_cons]
    rw [List.dropWhile_cons] at h
    split
    · rename_i e
      rw [if_pos e] at h
      exact blanksL_app z u h
    · rfl
theorem nameF_app (z : Bs) : ∀ (f f' k : Nat) (r : Bs), r.length ≤ f → r.length + z.length ≤ f' → Pch.textsL r = true → (∀ m, nameF f k r = .ok m → m < k + r.length → nameF f' k (r ++ z) = .ok m) ∧ (∀ m, nameF f k r = .error m → nameF f' k (r ++ z) = .error m)
  | 0, f', k, r, h1, h2, ht => by
    have : r = [] := List.eq_nil_of_length_eq_zero (by omega)
    subst this
    exact ⟨fun m h hm => by injection h with h; simp at hm; omega, fun m h => by cases h⟩
  | f + 1, f', k, r, h1, h2, ht => by
    by_cases hne : r = []
    · subst hne
      refine ⟨fun m h hm => ?_, fun m h => ?_⟩
      · have := (nameF_ok _ _ _ _ h).1
        simp at hm
        omega
      · have := nameF_err _ _ _ _ h
        rw [nameF, if_neg (by decide)] at h
        cases h
    · have hp := List.length_pos_iff.2 hne
      obtain ⟨g', rfl⟩ : ∃ g', f' = g' + 1 := ⟨f' - 1, by omega⟩
      have hw := decodeL_width r
      have hle := decodeL_le r hne
      have hl : (skip r).length = r.length - (decodeL r).2 := by unfold skip; exact List.length_drop
      have ih := nameF_app z f g' (k + (decodeL r).2) (skip r) (by omega) (by omega) (texts_step hne ht).2.2
      unfold nameF
      rw [peek_app z hne ht, dec_app z hne ht, skip_app z hne ht]
      split
      · split
        · exact ⟨fun m h => (by cases h), fun m h => h⟩
        · exact ⟨fun m h hm => ih.1 m h (by omega), ih.2⟩
      · exact ⟨fun m h _ => h, fun m h => by cases h⟩
theorem nameM_app_ok {r nm t : Bs} (z : Bs) (ht : Pch.textsL r = true) (h : nameM r = .ok (nm, t)) (hn : t ≠ []) : nameM (r ++ z) = .ok (nm, t ++ z) := by
  have h1 := nameM_ok h
  have hlt := nameM_lt h
  have hp := List.length_pos_iff.2 hn
  have hne : r ≠ [] := by intro e; have h9 : r.length = 0 := by rw [e]; rfl
                          omega
  unfold nameM at h ⊢
  rw [peek_app z hne ht]
  split at h
  · rename_i hst
    rw [if_pos hst]
    cases hk : nameF r.length 0 r with
    | error k => rw [hk] at h; cases h
    | ok k =>
      rw [hk] at h
      injection h with h
      injection h with h2 h3
      have hkl : k < r.length := by
        have := congrArg List.length h3
        rw [List.length_drop] at this
        omega
      rw [(nameF_app z r.length (r ++ z).length 0 r (Nat.le_refl _) (by simp) ht).1 k hk (by omega)]
      dsimp only
      rw [List.take_append_of_le_length (by omega), List.drop_append_of_le_length (by omega), h2, h3]
  · cases h
theorem nameM_app_no {r t : Bs} (z : Bs) (ht : Pch.textsL r = true) (h : nameM r = .error t) (hn : t ≠ []) : nameM (r ++ z) = .error (t ++ z) := by
  by_cases hne : r = []
  · subst hne
    unfold nameM at h
    rw [if_neg (by decide)] at h
    injection h with h
    exact absurd h.symm hn
  · unfold nameM at h ⊢
    rw [peek_app z hne ht]
    split at h
    · rename_i hst
      rw [if_pos hst]
      cases hk : nameF r.length 0 r with
      | ok k => rw [hk] at h; cases h
      | error k =>
        rw [hk] at h
        injection h with h
        have hkl := (nameF_err _ _ _ _ hk).2
        rw [(nameF_app z r.length (r ++ z).length 0 r (Nat.le_refl _) (by simp) ht).2 k hk]
        dsimp only
        rw [List.drop_append_of_le_length (by omega), h]
    · rename_i hst
      injection h with h
      rw [if_neg hst, h]
theorem pre_app {e l : Bs} (z : Bs) (h : e.length ≤ l.length) : hasPrefix (l ++ z) e = hasPrefix l e := by
  show e.isPrefixOf (l ++ z) = e.isPrefixOf l
  rw [Bool.eq_iff_iff, List.isPrefixOf_iff_prefix, List.isPrefixOf_iff_prefix]
  constructor
  · intro hp
    exact List.prefix_of_prefix_length_le hp (List.prefix_append l z) h
  · exact fun hp => hp.trans (List.prefix_append l z)
theorem untilM_len (e : Bs) : ∀ (r v t : Bs), untilM e r = some (v, t) → e.length ≤ r.length := by
  intro r v t h
  rw [untilM_app e r v t h]
  simp
  omega
theorem untilM_app_ok (e z : Bs) : ∀ (r v t : Bs), untilM e r = some (v, t) → e ≠ [] → untilM e (r ++ z) = some (v, t ++ z)
  | [], v, t, h, he => by
    unfold untilM at h
    rw [if_neg he] at h
    cases h
  | x :: u, v, t, h, he => by
    have hl := untilM_len e (x :: u) v t h
    have hpre := pre_app (e := e) (l := x :: u) z hl
    rw [List.cons_append] at hpre ⊢
    unfold untilM at h ⊢
    rw [hpre]
    split at h
    · rename_i hp
      rw [if_pos hp]
      injection h with h
      injection h with h1 h2
      subst h1 h2
      rw [← List.cons_append, List.drop_append_of_le_length hl]
    · rename_i hp
      rw [if_neg hp]
      cases hu : untilM e u with
      | none => rw [hu] at h; cases h
      | some q =>
        obtain ⟨v', t'⟩ := q
        rw [hu] at h
        injection h with h
        injection h with h1 h2
        dsimp only at h1 h2
        rw [untilM_app_ok e z u v' t' hu he, ← h1, ← h2]
        rfl
theorem untilR_app_ok {e r v t : Bs} (z : Bs) (h : untilR e r = .ok (v, t)) (he : e ≠ []) : untilR e (r ++ z) = .ok (v, t ++ z) := by
  unfold untilR at h ⊢
  cases hu : untilM e r with
  | none => rw [hu] at h; cases h
  | some q =>
    rw [hu] at h
    injection h with h
    subst h
    rw [untilM_app_ok e z r v t hu he]
theorem untilR_err {e r t : Bs} (h : untilR e r = .error t) : t = [] := by
  unfold untilR at h
  cases hu : untilM e r with
  | none => rw [hu] at h; injection h with h; exact h.symm
  | some q => rw [hu] at h; cases h
theorem digO_app {hex : Bool} {y : UInt8} {u z : Bs} : digO hex (y :: u ++ z) = digO hex (y :: u) := rfl
theorem low_of_peek {y : UInt8} {u : Bs} (z : Bs) : (peek (y :: u ++ z) = 59) ↔ (peek (y :: u) = 59) := by
  rw [show ((59 : Int)) = (((59 : UInt8)).toNat : Int) from rfl, peek_is 59 (by decide), peek_is 59 (by decide)]
  rfl
theorem numG_app_ok {hex : Bool} (z : Bs) : ∀ (r : Bs) (n : Nat) (any : Bool) (m : Nat) (t : Bs), numG hex n any r = .ok (m, t) → numG hex n any (r ++ z) = .ok (m, t ++ z)
  | [], n, any, m, t, h => by rw [numG] at h; cases h
  | y :: u, n, any, m, t, h => by
    cases hd : digO hex (y :: u) with
    | some d =>
      rw [numG_more hd] at h
      rw [numG_more (r := y :: u ++ z) (by rw [digO_app]; exact hd)]
      generalize n * (if hex = true then 16 else 10) + d = q at h ⊢
      split at h
      · cases h
      · rename_i hq
        rw [if_neg hq]
        exact numG_app_ok z u _ true m t h
    | none =>
      rw [numG_end hd] at h
      rw [numG_end (r := y :: u ++ z) (by rw [digO_app]; exact hd)]
      split at h
      · cases h
      · rename_i hq
        rw [if_neg (by rw [Ne, low_of_peek z]; exact hq)]
        injection h with h
        injection h with h1 h2
        subst h1 h2
        rfl
theorem numG_app_no {hex : Bool} (z : Bs) : ∀ (r : Bs) (n : Nat) (any : Bool) (t : Bs), numG hex n any r = .error t → t ≠ [] → numG hex n any (r ++ z) = .error (t ++ z)
  | [], n, any, t, h, hn => by rw [numG] at h; injection h with h; exact absurd h.symm hn
  | y :: u, n, any, t, h, hn => by
    cases hd : digO hex (y :: u) with
    | some d =>
      rw [numG_more hd] at h
      rw [numG_more (r := y :: u ++ z) (by rw [digO_app]; exact hd)]
      generalize n * (if hex = true then 16 else 10) + d = q at h ⊢
      split at h
      · rename_i hq
        rw [if_pos hq]
        injection h with h
        rw [← h]
      · rename_i hq
        rw [if_neg hq]
        exact numG_app_no z u _ true t h hn
    | none =>
      rw [numG_end hd] at h
      rw [numG_end (r := y :: u ++ z) (by rw [digO_app]; exact hd)]
      split at h
      · rename_i hq
        rw [if_pos (by rw [Ne, low_of_peek z]; exact hq)]
        injection h with h
        rw [← h]
      · cases h
theorem isM_app_ok {a r t : Bs} {n m : Nat} (z : Bs) (h : isM a n r = .ok (m, t)) : isM a n (r ++ z) = .ok (m, t ++ z) := by
  unfold isM at h ⊢
  cases hm : mustL a r with
  | error u => rw [hm] at h; cases h
  | ok u =>
    rw [hm] at h
    injection h with h
    injection h with h1 h2
    subst h1 h2
    rw [mustL_app_ok z a r u hm]
theorem isM_app_no {a r t : Bs} {n : Nat} (z : Bs) (h : isM a n r = .error t) (hn : t ≠ []) : isM a n (r ++ z) = .error (t ++ z) := by
  unfold isM at h ⊢
  cases hm : mustL a r with
  | ok u => rw [hm] at h; cases h
  | error u =>
    rw [hm] at h
    injection h with h
    subst h
    rw [mustL_app_no z a r u hm hn]
theorem numM_dec {u : Bs} (h : u.head? ≠ some 120) : numM u = numG false 0 false u := by
  unfold numM
  split
  · exact absurd rfl h
  · rfl
theorem head_app {r : Bs} (z : Bs) (h : r ≠ []) : (r ++ z).head? = r.head? := by
  cases r with
  | nil => exact absurd rfl h
  | cons y u => rfl
theorem refM_nil : refM [] = .error [] := rfl
theorem refM_app {r : Bs} (z : Bs) : (∀ n t, refM r = .ok (n, t) → refM (r ++ z) = .ok (n, t ++ z)) ∧ (∀ t, refM r = .error t → t ≠ [] → refM (r ++ z) = .error (t ++ z)) := by
  cases r with
  | nil => exact ⟨fun n t h => (by cases h), fun t h hn => by rw [refM_nil] at h; injection h with h; exact absurd h.symm hn⟩
  | cons y u =>
    have hne : (y :: u) ≠ [] := by simp
    by_cases h1 : y = 35
    · subst h1
      rw [List.cons_append, refM_num, refM_num]
      cases u with
      | nil => exact ⟨fun n t h => (by cases h), fun t h hn => by rw [show numM [] = .error [] from rfl] at h; injection h with h; exact absurd h.symm hn⟩
      | cons x v =>
        by_cases hx : x = 120
        · subst hx
          exact ⟨fun n t h => numG_app_ok z v 0 false n t h, fun t h hn => numG_app_no z v 0 false t h hn⟩
        · have hh : (x :: v).head? ≠ some 120 := by intro e; injection e with e; exact hx e
          have hh2 : (x :: v ++ z).head? ≠ some 120 := hh
          rw [numM_dec hh, numM_dec hh2]
          exact ⟨fun n t h => numG_app_ok z (x :: v) 0 false n t h, fun t h hn => numG_app_no z (x :: v) 0 false t h hn⟩
    · by_cases h2 : y = 108
      · subst h2
        exact ⟨fun n t h => isM_app_ok (a := [108, 116, 59]) (n := 60) (r := 108 :: u) z h, fun t h hn => isM_app_no (a := [108, 116, 59]) (n := 60) (r := 108 :: u) z h hn⟩
      · by_cases h3 : y = 103
        · subst h3
          exact ⟨fun n t h => isM_app_ok (a := [103, 116, 59]) (n := 62) (r := 103 :: u) z h, fun t h hn => isM_app_no (a := [103, 116, 59]) (n := 62) (r := 103 :: u) z h hn⟩
        · by_cases h4 : y = 113
          · subst h4
            exact ⟨fun n t h => isM_app_ok (a := [113, 117, 111, 116, 59]) (n := 34) (r := 113 :: u) z h, fun t h hn => isM_app_no (a := [113, 117, 111, 116, 59]) (n := 34) (r := 113 :: u) z h hn⟩
          · by_cases h5 : y = 97
            · subst h5
              cases u with
              | nil => exact ⟨fun n t h => (by cases h), fun t h hn => by rw [show refM [97] = .error [] from rfl] at h; injection h with h; exact absurd h.symm hn⟩
              | cons x v =>
                by_cases h6 : x = 109
                · subst h6
                  exact ⟨fun n t h => isM_app_ok (a := [109, 112, 59]) (n := 38) (r := 109 :: v) z h, fun t h hn => isM_app_no (a := [109, 112, 59]) (n := 38) (r := 109 :: v) z h hn⟩
                · have hh : (x :: v).head? ≠ some 109 := by intro e; injection e with e; exact h6 e
                  have hh2 : (x :: v ++ z).head? ≠ some 109 := hh
                  rw [List.cons_append, refM_a hh, refM_a hh2]
                  exact ⟨fun n t h => isM_app_ok z h, fun t h hn => isM_app_no z h hn⟩
            · have k1 : (y :: u).head? ≠ some 35 := by intro e; injection e with e; exact h1 e
              have k2 : (y :: u).head? ≠ some 108 := by intro e; injection e with e; exact h2 e
              have k3 : (y :: u).head? ≠ some 103 := by intro e; injection e with e; exact h3 e
              have k4 : (y :: u).head? ≠ some 113 := by intro e; injection e with e; exact h4 e
              have k5 : (y :: u).head? ≠ some 97 := by intro e; injection e with e; exact h5 e
              rw [refM_none k1 k2 k3 k4 k5, refM_none (r := y :: u ++ z) k1 k2 k3 k4 k5]
              exact ⟨fun n t h => (by cases h), fun t h hn => by injection h with h; rw [← h]⟩
theorem nlL_app {t : Bs} (z : Bs) (h : t ≠ []) : nlL (t ++ z) = nlL t ++ z := by
  cases t with
  | nil => exact absurd rfl h
  | cons y u =>
    by_cases hy : y = 10
    · subst hy
      rfl
    · rw [List.cons_append]
      unfold nlL
      split
      · rename_i e; injection e with e; exact absurd e hy
      · split
        · rename_i e; injection e with e; exact absurd e hy
        · rfl
end Go.Proofs.YtemfmidhekdekaaGreatDoor.Ppa
namespace Go.Proofs.YtemfmidhekdekaaGreatDoor.Ppa
open Go Go.Lib Go.Proofs.YtemfmidhekdekaaGreatDoor.Ptr Go.Proofs.YtemfmidhekdekaaGreatDoor.Wps

/-- a result, with more behind it -/
def moreR {α : Type} (z : Bs) : Except Bs (Bs × α) → Except Bs (Bs × α)
  | .ok (r, s) => .ok (r ++ z, s)
  | .error r => .error (r ++ z)
/-- it does not end at the end -/
def inner {α : Type} : Except Bs (Bs × α) → Prop
  | .ok (r, _) => r ≠ []
  | .error r => r ≠ []
/-- an error does not stand at the end -/
def innerE {α : Type} : Except Bs (Bs × α) → Prop
  | .ok _ => True
  | .error r => r ≠ []
theorem valF_app (q : UInt8) (z : Bs) (j : Nat) : ∀ (f : Nat) (acc r : Bs), (∀ v t, valF q f acc r = some (.ok (v, t)) → valF q (f + j) acc (r ++ z) = some (.ok (v, t ++ z))) ∧ (∀ t, valF q f acc r = some (.error t) → t ≠ [] → valF q (f + j) acc (r ++ z) = some (.error (t ++ z)))
  | 0, acc, r => ⟨fun v t h => (by cases h), fun t h => (by cases h)⟩
  | f + 1, acc, [] => ⟨fun v t h => (by rw [valF] at h; cases h), fun t h hn => by rw [valF] at h; injection h with h; injection h with h; exact absurd h.symm hn⟩
  | f + 1, acc, x :: u => by
    rw [show f + 1 + j = f + j + 1 by omega, List.cons_append, valF, valF]
    split
    · exact ⟨fun v t h => (by injection h with h; injection h with h; injection h with h1 h2; subst h1 h2; rfl), fun t h => (by cases h)⟩
    · split
      · exact ⟨fun v t h => (by cases h), fun t h _ => (by injection h with h; injection h with h; rw [← h]; rfl)⟩
      · split
        · have hr := refM_app (r := u) z
          cases hm : refM u with
          | ok p =>
            obtain ⟨n, t'⟩ := p
            rw [hr.1 n t' hm]
            exact valF_app q z j f _ t'
          | error t' =>
            refine ⟨fun v t h => (by cases h), fun t h hn => ?_⟩
            injection h with h
            injection h with h
            subst h
            rw [hr.2 t' hm hn]
        · split
          · by_cases hu : u = []
            · subst hu
              cases f with
              | zero => exact ⟨fun v t h => (by cases h), fun t h => (by cases h)⟩
              | succ f => exact ⟨fun v t h => (by rw [show nlL [] = [] from rfl, valF] at h; cases h), fun t h hn => by rw [show nlL [] = [] from rfl, valF] at h; injection h with h; injection h with h; exact absurd h.symm hn⟩
            · rw [nlL_app z hu]
              exact valF_app q z j f _ _
          · split
            · exact valF_app q z j f _ u
            · exact valF_app q z j f _ u
theorem valM_eq (x : UInt8) (u : Bs) : valM (x :: u) = if x = 34 ∨ x = 39 then (match valF x (u.length + 1) [] u with | some o => o | none => Except.error []) else Except.error (x :: u) := rfl
theorem valM_app {r : Bs} (z : Bs) : (∀ v t, valM r = .ok (v, t) → valM (r ++ z) = .ok (v, t ++ z)) ∧ (∀ t, valM r = .error t → t ≠ [] → valM (r ++ z) = .error (t ++ z)) := by
  cases r with
  | nil => exact ⟨fun v t h => (by cases h), fun t h hn => by rw [show valM [] = .error [] from rfl] at h; injection h with h; exact absurd h.symm hn⟩
  | cons x u =>
    rw [List.cons_append, valM_eq, valM_eq]
    split
    · obtain ⟨o, ho⟩ := valF_some x (u.length + 1) [] u (by omega)
      have hv := valF_app x z z.length (u.length + 1) [] u
      rw [show (u ++ z).length + 1 = u.length + 1 + z.length by rw [List.length_append]; omega]
      rw [ho] at hv ⊢
      cases o with
      | ok p =>
        obtain ⟨v, t⟩ := p
        rw [hv.1 v t rfl]
        exact ⟨fun v' t' h => (by injection h with h; injection h with h1 h2; subst h1 h2; rfl), fun t' h => (by cases h)⟩
      | error t =>
        refine ⟨fun v' t' h => (by cases h), fun t' h hn => ?_⟩
        injection h with h
        subst h
        rw [hv.2 t rfl hn]
    · exact ⟨fun v t h => (by cases h), fun t h _ => (by injection h with h; rw [← h]; rfl)⟩
theorem instrM_app {p : Int} {r : Bs} {s : St} (z : Bs) (ht : Pch.textsL r = true) (h : innerE (instrM p r s)) : instrM p (r ++ z) s = moreR z (instrM p r s) := by
  cases hn : nameM r with
  | error r1 =>
    have e : instrM p r s = .error r1 := by unfold instrM; rw [hn]
    rw [e] at h ⊢
    unfold instrM
    rw [nameM_app_no z ht hn h]
    rfl
  | ok q =>
    obtain ⟨nm, r1⟩ := q
    by_cases h0 : r1 = []
    · subst h0
      have e : instrM p r s = .error [] := by
        unfold instrM
        rw [hn]
        dsimp only
        split <;> rfl
      rw [e] at h
      exact absurd rfl h
    · obtain ⟨x, u, rfl⟩ : ∃ x u, r1 = x :: u := by
        cases r1 with
        | nil => exact absurd rfl h0
        | cons x u => exact ⟨x, u, rfl⟩
      unfold instrM at h ⊢
      rw [nameM_app_ok z ht hn h0]
      rw [hn] at h ⊢
      dsimp only at h ⊢
      rw [List.cons_append]
      split
      · rfl
      · rename_i hx
        rw [if_neg hx] at h
        dsimp only at h ⊢
        split
        · rename_i hb
          rw [if_pos hb] at h
          by_cases hbl : blanksL (x :: u) = []
          · rw [hbl] at h
            exact absurd rfl h
          · rw [← List.cons_append, blanksL_app z (x :: u) hbl]
            cases hu : untilR [63, 62] (blanksL (x :: u)) with
            | error r2 =>
              rw [hu] at h
              exact absurd (untilR_err hu) h
            | ok q2 =>
              obtain ⟨v, r2⟩ := q2
              rw [untilR_app_ok z hu (by simp)]
              rfl
        · rename_i hb
          rw [if_neg hb] at h
          split
          · rename_i h63
            rw [if_pos h63] at h
            cases hu : mustL [63, 62] (x :: u) with
            | error r2 =>
              rw [hu] at h
              rw [← List.cons_append, mustL_app_no z _ _ _ hu h]
              rfl
            | ok r2 =>
              rw [← List.cons_append, mustL_app_ok z _ _ _ hu]
              rfl
          · rfl
theorem commM_app {p : Int} {r : Bs} {s : St} (z : Bs) (h : innerE (commM p r s)) : commM p (r ++ z) s = moreR z (commM p r s) := by
  unfold commM at h ⊢
  cases hn : mustL [45] r with
  | error r1 =>
    rw [hn] at h
    rw [mustL_app_no z _ _ _ hn h]
    rfl
  | ok r1 =>
    rw [hn] at h
    rw [mustL_app_ok z _ _ _ hn]
    dsimp only at h ⊢
    cases hu : untilR [45, 45] r1 with
    | error r2 =>
      rw [hu] at h
      exact absurd (untilR_err hu) h
    | ok q =>
      obtain ⟨v, r2⟩ := q
      rw [hu] at h
      rw [untilR_app_ok z hu (by simp)]
      dsimp only at h ⊢
      cases hm : mustL [62] r2 with
      | error r3 =>
        rw [hm] at h
        rw [mustL_app_no z _ _ _ hm h]
        rfl
      | ok r3 =>
        rw [mustL_app_ok z _ _ _ hm]
        rfl
theorem attrM_app {N q : Nat} {r : Bs} {s : St} (z : Bs) (ht : Pch.textsL r = true) (h : innerE (attrM N q r s)) : attrM (N + z.length) q (r ++ z) s = moreR z (attrM N q r s) := by
  have hpos : ((N + z.length : Nat) : Int) - (r ++ z).length = (N : Int) - r.length := by rw [List.length_append]; omega
  unfold attrM at h ⊢
  cases hn : nameM r with
  | error r1 =>
    rw [hn] at h
    rw [nameM_app_no z ht hn h]
    rfl
  | ok q1 =>
    obtain ⟨nm, r1⟩ := q1
    rw [hn] at h
    dsimp only at h
    by_cases h0 : blanksL r1 = []
    · rw [h0] at h
      exact absurd rfl h
    · have h1 : r1 ≠ [] := by intro e; rw [e] at h0; exact h0 rfl
      rw [nameM_app_ok z ht hn h1]
      dsimp only
      rw [blanksL_app z r1 h0]
      cases hm : mustL [61] (blanksL r1) with
      | error r2 =>
        rw [hm] at h
        rw [mustL_app_no z _ _ _ hm h]
        rfl
      | ok r2 =>
        rw [hm] at h
        rw [mustL_app_ok z _ _ _ hm]
        dsimp only at h ⊢
        by_cases h2 : blanksL r2 = []
        · rw [h2] at h
          exact absurd rfl h
        · rw [blanksL_app z r2 h2]
          cases hv : valM (blanksL r2) with
          | error r3 =>
            rw [hv] at h
            rw [(valM_app z).2 r3 hv h]
            rfl
          | ok q3 =>
            obtain ⟨v, r3⟩ := q3
            rw [(valM_app z).1 v r3 hv]
            dsimp only [moreR]
            rw [hpos]
theorem againF_app_ok (z : Bs) : ∀ (f : Nat) (n r t : Bs), Pch.textsL r = true → againF f n r = .ok t → againF f n (r ++ z) = .ok (t ++ z)
  | 0, n, r, t, _, h => by injection h with h; rw [h]; rfl
  | f + 1, n, r, t, hr, h => by
    unfold againF at h ⊢
    split at h
    · rename_i hn
      rw [if_pos hn]
      injection h with h
      rw [h]
    · rename_i hn
      rw [if_neg hn]
      split at h
      · rename_i hp
        have hne := peek_ne0 hn hp
        rw [peek_app z hne hr, if_pos hp, skip_app z hne hr]
        exact againF_app_ok z f (skip n) (skip r) t (texts_step hne hr).2.2 h
      · cases h
theorem againF_app_no (z : Bs) : ∀ (f : Nat) (n r t : Bs), Pch.textsL r = true → againF f n r = .error t → t ≠ [] → againF f n (r ++ z) = .error (t ++ z)
  | 0, n, r, t, _, h, _ => by cases h
  | f + 1, n, r, t, hr, h, ht => by
    unfold againF at h ⊢
    split at h
    · cases h
    · rename_i hn
      rw [if_neg hn]
      split at h
      · rename_i hp
        have hne := peek_ne0 hn hp
        rw [peek_app z hne hr, if_pos hp, skip_app z hne hr]
        exact againF_app_no z f (skip n) (skip r) t (texts_step hne hr).2.2 h ht
      · rename_i hp
        injection h with h
        subst h
        rw [peek_app z ht hr, if_neg hp]
theorem closeM_app_ok {nm r t : Bs} (z : Bs) (hr : Pch.textsL r = true) (h : closeM nm r = .ok t) : closeM nm (r ++ z) = .ok (t ++ z) := by
  unfold closeM at h ⊢
  cases ha : againL nm r with
  | error r5 => rw [ha] at h; cases h
  | ok r5 =>
    rw [ha] at h
    dsimp only at h
    have h1 : againL nm (r ++ z) = .ok (r5 ++ z) := againF_app_ok z _ nm r r5 hr ha
    rw [h1]
    dsimp only
    by_cases hb : blanksL r5 = []
    · rw [hb] at h; cases h
    · rw [blanksL_app z r5 hb]
      exact mustL_app_ok z _ _ _ h
theorem closeM_app_no {nm r t : Bs} (z : Bs) (hr : Pch.textsL r = true) (h : closeM nm r = .error t) (hn : t ≠ []) : closeM nm (r ++ z) = .error (t ++ z) := by
  unfold closeM at h ⊢
  cases ha : againL nm r with
  | error r5 =>
    rw [ha] at h
    injection h with h
    subst h
    have h1 : againL nm (r ++ z) = .error (r5 ++ z) := againF_app_no z _ nm r r5 hr ha hn
    rw [h1]
  | ok r5 =>
    rw [ha] at h
    dsimp only at h
    have h1 : againL nm (r ++ z) = .ok (r5 ++ z) := againF_app_ok z _ nm r r5 hr ha
    rw [h1]
    dsimp only
    by_cases hb : blanksL r5 = []
    · rw [hb] at h
      injection h with h
      exact absurd h.symm hn
    · rw [blanksL_app z r5 hb]
      exact mustL_app_no z _ _ _ h hn
theorem attrsF_app {N q : Nat} (z : Bs) (j : Nat) : ∀ (f : Nat) (r : Bs) (s : St) (o : Except Bs (Bs × St)), Pch.textsL r = true → attrsF N q f r s = some o → inner o → attrsF (N + z.length) q (f + j) (r ++ z) s = some (moreR z o)
  | 0, r, s, o, _, h, _ => by cases h
  | f + 1, r, s, o, ht, h, hi => by
    rw [show f + 1 + j = f + j + 1 by omega]
    cases hb : blankH r with
    | false =>
      rw [attrs_stop hb] at h
      injection h with h
      subst h
      have hne : r ≠ [] := hi
      have hb2 : blankH (r ++ z) = false := by
        cases r with
        | nil => exact absurd rfl hne
        | cons y u => exact hb
      rw [attrs_stop hb2]
      rfl
    | true =>
      have hb2 : blankH (r ++ z) = true := by
        cases r with
        | nil => cases hb
        | cons y u => exact hb
      have htb := blanksL_texts ht
      by_cases h0 : blanksL r = []
      · rw [attrs_more hb (by rw [h0]; simp) (by rw [h0]; simp), h0] at h
        rw [show attrM N q [] s = .error [] from rfl] at h
        injection h with h
        subst h
        exact absurd rfl hi
      · have hba := blanksL_app z r h0
        by_cases h47 : (blanksL r).head? = some 47
        · obtain ⟨u, hu⟩ := head_cons h47
          rw [attrs_end hb hu (.inl rfl)] at h
          injection h with h
          subst h
          rw [attrs_end hb2 (u := u ++ z) (by rw [hba, hu]; rfl) (.inl rfl)]
          rfl
        · by_cases h62 : (blanksL r).head? = some 62
          · obtain ⟨u, hu⟩ := head_cons h62
            rw [attrs_end hb hu (.inr rfl)] at h
            injection h with h
            subst h
            rw [attrs_end hb2 (u := u ++ z) (by rw [hba, hu]; rfl) (.inr rfl)]
            rfl
          · rw [attrs_more hb h47 h62] at h
            rw [attrs_more hb2 (by rw [hba, head_app z h0]; exact h47) (by rw [hba, head_app z h0]; exact h62), hba]
            cases ha : attrM N q (blanksL r) s with
            | error r2 =>
              rw [ha] at h
              injection h with h
              subst h
              rw [attrM_app z htb (by rw [ha]; exact hi), ha]
              rfl
            | ok q2 =>
              obtain ⟨r2, s2⟩ := q2
              rw [ha] at h
              rw [attrM_app z htb (by rw [ha]; trivial), ha]
              exact attrsF_app z j f r2 s2 o ((attrM_ok ha).2.2.1 htb) h hi
theorem elemS_app (N : Nat) (p : Int) (d : Nat) (r nm z : Bs) (s : St) : elemS (N + z.length) p d (r ++ z) nm s = elemS N p d r nm s := by
  have hpos : ((N + z.length : Nat) : Int) - (r ++ z).length - 1 = (N : Int) - r.length - 1 := by rw [List.length_append]; omega
  unfold elemS
  rw [hpos]
/-- an end of a right text -/
def Tx (r : Bs) : Prop := ∃ r0, Pch.textsL r0 = true ∧ r <:+ r0
theorem Tx.suf {r t : Bs} (h : Tx r) (hs : t <:+ r) : Tx t := by
  obtain ⟨r0, h1, h2⟩ := h
  exact ⟨r0, h1, hs.trans h2⟩
theorem Tx.low {x : UInt8} {t : Bs} (h : Tx (x :: t)) (hx : x.toNat < 128) : Pch.textsL t = true := by
  obtain ⟨r0, h1, h2⟩ := h
  exact texts_tail h1 h2 hx
theorem Tx.of {r : Bs} (h : Pch.textsL r = true) : Tx r := ⟨r, h, List.suffix_refl _⟩
structure Kx (N : Nat) (z : Bs) (j f : Nat) : Prop where
  cont : ∀ (p : Int) (d run : Nat) (r : Bs) (s : St) (o : Except Bs (Bs × St)), 0 ≤ p → Tx r → contF N f p d run r s = some o → innerE o → contF (N + z.length) (f + j) p d run (r ++ z) s = some (moreR z o)
  mark : ∀ (p : Int) (d : Nat) (r : Bs) (s : St) (o : Except Bs (Bs × St)), Pch.textsL r = true → markF N f p d r s = some o → innerE o → markF (N + z.length) (f + j) p d (r ++ z) s = some (moreR z o)
  elem : ∀ (p : Int) (d : Nat) (r : Bs) (s : St) (o : Except Bs (Bs × St)), Pch.textsL r = true → elemF N f p d r s = some o → innerE o → elemF (N + z.length) (f + j) p d (r ++ z) s = some (moreR z o)
theorem kx_cont {N j f : Nat} {z : Bs} (ih : Kx N z j f) (p : Int) (d run : Nat) (r : Bs) (s : St) (o : Except Bs (Bs × St)) (hp : 0 ≤ p) (ht : Tx r) (h : contF N (f + 1) p d run r s = some o) (hi : innerE o) : contF (N + z.length) (f + 1 + j) p d run (r ++ z) s = some (moreR z o) := by
  rw [show f + 1 + j = f + j + 1 by omega]
  cases r with
  | nil =>
    rw [cont_lack (by omega)] at h
    injection h with h
    subst h
    exact absurd rfl hi
  | cons x t =>
    have hxt : t <:+ x :: t := List.suffix_cons _ _
    rw [List.cons_append]
    by_cases hbad : x = 62 ∧ 2 ≤ run
    · obtain ⟨rfl, hr⟩ := hbad
      rw [cont_bad hr] at h
      injection h with h
      subst h
      rw [cont_bad hr]
      rfl
    · by_cases h60 : x = 60
      · subst h60
        by_cases hc : 0 ≤ p ∧ t.head? = some 47
        · obtain ⟨_, hc⟩ := hc
          obtain ⟨u, rfl⟩ := head_cons hc
          rw [cont_close hp] at h
          injection h with h
          subst h
          rw [List.cons_append, cont_close hp]
          rfl
        · have htt := ht.low (by decide)
          rw [cont_mark hc] at h
          cases hm : markF N f p d t s with
          | none => rw [hm] at h; cases h
          | some om =>
            rw [hm] at h
            have hcz : t ≠ [] → ¬ (0 ≤ p ∧ (t ++ z).head? = some 47) := fun h0 e => hc ⟨hp, by rw [← head_app z h0]; exact e.2⟩
            have hmi : innerE om → t ≠ [] := by
              rintro h1 rfl
              cases f with
              | zero => unfold markF at hm; cases hm
              | succ f =>
                rw [mark_elem (by simp) (by simp)] at hm
                cases f with
                | zero => unfold elemF at hm; cases hm
                | succ f =>
                  rw [elemF_eq, show nameM [] = .error [] from rfl] at hm
                  injection hm with hm
                  subst hm
                  exact h1 rfl
            cases om with
            | error r1 =>
              injection h with h
              subst h
              have h0 := hmi hi
              rw [cont_mark (hcz h0), ih.mark p d t s _ htt hm hi]
              rfl
            | ok q =>
              obtain ⟨r1, s1⟩ := q
              have h0 := hmi trivial
              have hk := (kc_all N f).mark p d t s r1 s1 hm
              rw [cont_mark (hcz h0), ih.mark p d t s _ htt hm trivial]
              exact ih.cont p d 0 r1 s1 o hp (Tx.of (hk.2.2 htt)) h hi
      · by_cases h38 : x = 38
        · subst h38
          rw [cont_ref] at h ⊢
          cases hr : refM t with
          | error r1 =>
            rw [hr] at h
            injection h with h
            subst h
            rw [(refM_app z).2 r1 hr hi]
            rfl
          | ok q =>
            obtain ⟨n, r1⟩ := q
            rw [hr] at h
            rw [(refM_app z).1 n r1 hr]
            exact ih.cont p d 0 r1 _ o hp (ht.suf ((refM_suf hr).trans hxt)) h hi
        · by_cases h13 : x = 13
          · subst h13
            rw [cont_cr] at h ⊢
            by_cases h0 : t = []
            · subst h0
              cases f with
              | zero => unfold contF at h; cases h
              | succ f =>
                rw [show nlL [] = [] from rfl, cont_lack (by omega)] at h
                injection h with h
                subst h
                exact absurd rfl hi
            · rw [nlL_app z h0]
              exact ih.cont p d 0 _ _ o hp (ht.suf ((nlL_suf t).trans hxt)) h hi
          · rw [cont_char hbad h60 h38 h13] at h ⊢
            exact ih.cont p d _ t _ o hp (ht.suf hxt) h hi
theorem kx_mark {N j f : Nat} {z : Bs} (ih : Kx N z j f) (p : Int) (d : Nat) (r : Bs) (s : St) (o : Except Bs (Bs × St)) (ht : Pch.textsL r = true) (h : markF N (f + 1) p d r s = some o) (hi : innerE o) : markF (N + z.length) (f + 1 + j) p d (r ++ z) s = some (moreR z o) := by
  rw [show f + 1 + j = f + j + 1 by omega]
  by_cases h63 : r.head? = some 63
  · obtain ⟨t, rfl⟩ := head_cons h63
    rw [mark_instr] at h
    injection h with h
    subst h
    rw [List.cons_append, mark_instr, instrM_app z (texts_low (by decide) ht) hi]
  · by_cases h33 : r.head? = some 33
    · obtain ⟨t, rfl⟩ := head_cons h33
      have ht1 := texts_low (by decide) ht
      by_cases h45 : t.head? = some 45
      · obtain ⟨u, rfl⟩ := head_cons h45
        rw [mark_comm] at h
        injection h with h
        subst h
        rw [List.cons_append, List.cons_append, mark_comm, commM_app z hi]
      · rw [mark_cdata h45] at h
        injection h with h
        subst h
        have h0 : t ≠ [] := by
          rintro rfl
          exact hi rfl
        rw [List.cons_append, mark_cdata (by rw [head_app z h0]; exact h45)]
        unfold cdataM at hi ⊢
        cases hm : mustL [91, 67, 68, 65, 84, 65, 91] t with
        | error r1 =>
          rw [hm] at hi
          rw [mustL_app_no z _ _ _ hm hi]
          rfl
        | ok r1 =>
          rw [hm] at hi
          rw [mustL_app_ok z _ _ _ hm]
          dsimp only at hi ⊢
          cases hu : untilR [93, 93, 62] r1 with
          | error r2 =>
            rw [hu] at hi
            exact absurd (untilR_err hu) hi
          | ok q =>
            obtain ⟨v, r2⟩ := q
            rw [untilR_app_ok z hu (by simp)]
            rfl
    · rw [mark_elem h63 h33] at h
      have h0 : r ≠ [] := by
        rintro rfl
        cases f with
        | zero => unfold elemF at h; cases h
        | succ f =>
          rw [elemF_eq, show nameM [] = .error [] from rfl] at h
          injection h with h
          subst h
          exact hi rfl
      rw [mark_elem (by rw [head_app z h0]; exact h63) (by rw [head_app z h0]; exact h33)]
      exact ih.elem p (d + 1) r s o ht h hi
end Go.Proofs.YtemfmidhekdekaaGreatDoor.Ppa
namespace Go.Proofs.YtemfmidhekdekaaGreatDoor.Ppa
open Go Go.Lib Go.Proofs.YtemfmidhekdekaaGreatDoor.Ptr Go.Proofs.YtemfmidhekdekaaGreatDoor.Wps

theorem elem_tail (N f : Nat) (p : Int) (d : Nat) (r : Bs) (s : St) : elemF N (f + 1) p d r s = match nameM r with
    | .error r1 => some (.error r1)
    | .ok (nm, r1) => match attrsF N (elemS N p d r nm s).nodes.length.pred (f + 1) r1 (elemS N p d r nm s) with
      | none => none
      | some oA => tailM N f nm (elemS N p d r nm s).nodes.length.pred d oA := by
  rw [elemF_eq]
  cases nameM r with
  | error r1 => rfl
  | ok q =>
    obtain ⟨nm, r1⟩ := q
    dsimp only
    generalize elemS N p d r nm s = S
    generalize attrsF N S.nodes.length.pred (f + 1) r1 S = oo
    cases oo with
    | none => rfl
    | some oA =>
      cases oA with
      | error r2 => rfl
      | ok q2 =>
        obtain ⟨r2, s2⟩ := q2
        by_cases h47 : ∃ t, r2 = 47 :: t
        · obtain ⟨t, rfl⟩ := h47
          rfl
        · unfold tailM
          refine (match47 h47 _ _).trans ?_
          symm
          exact match47 h47 _ _
theorem tail_app {N j f : Nat} {z : Bs} (ih : Kx N z j f) (nm : Bs) (q d : Nat) (r2 : Bs) (s2 : St) (o : Except Bs (Bs × St)) (ht : Pch.textsL r2 = true) (h : tailM N f nm q d (.ok (r2, s2)) = some o) (hi : innerE o) : tailM (N + z.length) (f + j) nm q d (.ok (r2 ++ z, s2)) = some (moreR z o) := by
  by_cases h47 : r2.head? = some 47
  · obtain ⟨t, rfl⟩ := head_cons h47
    rw [tail_slash] at h
    injection h with h
    subst h
    rw [List.cons_append, tail_slash]
    cases hm : mustL [62] t with
    | error r3 =>
      rw [hm] at hi
      rw [mustL_app_no z _ _ _ hm hi]
      rfl
    | ok r3 =>
      rw [mustL_app_ok z _ _ _ hm]
      rfl
  · have h0 : r2 ≠ [] := by
      rintro rfl
      rw [tail_no (by simp) (show mustL [62] [] = .error [] from rfl)] at h
      injection h with h
      subst h
      exact hi rfl
    have h47z : (r2 ++ z).head? ≠ some 47 := by rw [head_app z h0]; exact h47
    cases hm : mustL [62] r2 with
    | error r3 =>
      rw [tail_no h47 hm] at h
      injection h with h
      subst h
      rw [tail_no h47z (mustL_app_no z _ _ _ hm hi)]
      rfl
    | ok r3 =>
      have t3 := mustL_texts _ _ _ (by decide) ht hm
      rw [tail_cont h47 hm] at h
      rw [tail_cont h47z (mustL_app_ok z _ _ _ hm)]
      cases hc : contF N f (q : Int) d 0 r3 s2 with
      | none => rw [hc] at h; cases h
      | some oc =>
        rw [hc] at h
        cases oc with
        | error r4 =>
          injection h with h
          subst h
          rw [ih.cont q d 0 r3 s2 _ (by omega) (Tx.of t3) hc hi]
          rfl
        | ok q4 =>
          obtain ⟨r4, s4⟩ := q4
          rw [ih.cont q d 0 r3 s2 _ (by omega) (Tx.of t3) hc trivial]
          have t4 : Pch.textsL r4 = true := by
            rcases ((kc_all N f).cont _ _ _ _ _ _ _ hc).2.2 with ⟨h5, _⟩ | ⟨_, h5⟩
            · exfalso; omega
            · exact texts_tail t3 h5 (by decide)
          injection h with h
          subst h
          dsimp only [moreR]
          cases hcl : closeM nm r4 with
          | error r6 =>
            rw [hcl] at hi
            rw [closeM_app_no z t4 hcl hi]
          | ok r6 => rw [closeM_app_ok z t4 hcl]
theorem kx_elem {N j f : Nat} {z : Bs} (ih : Kx N z j f) (p : Int) (d : Nat) (r : Bs) (s : St) (o : Except Bs (Bs × St)) (ht : Pch.textsL r = true) (h : elemF N (f + 1) p d r s = some o) (hi : innerE o) : elemF (N + z.length) (f + 1 + j) p d (r ++ z) s = some (moreR z o) := by
  rw [show f + 1 + j = f + j + 1 by omega]
  rw [elem_tail] at h ⊢
  cases hn : nameM r with
  | error r1 =>
    rw [hn] at h
    injection h with h
    subst h
    rw [nameM_app_no z ht hn hi]
    rfl
  | ok q =>
    obtain ⟨nm, r1⟩ := q
    rw [hn] at h
    dsimp only at h
    have t1 := (nameM_ok hn).2.2 ht
    have hS := elemS_app N p d r nm z s
    generalize elemS N p d r nm s = S at h hS
    cases ha : attrsF N S.nodes.length.pred (f + 1) r1 S with
    | none => rw [ha] at h; cases h
    | some oA =>
      rw [ha] at h
      dsimp only at h
      have hin : inner oA := by
        cases oA with
        | error r2 =>
          injection h with h
          subst h
          exact hi
        | ok q2 =>
          obtain ⟨r2, s2⟩ := q2
          rintro rfl
          rw [tail_no (by simp) (show mustL [62] [] = .error [] from rfl)] at h
          injection h with h
          subst h
          exact hi rfl
      have h0 : r1 ≠ [] := by
        rintro rfl
        rw [attrs_stop rfl] at ha
        injection ha with ha
        subst ha
        exact hin rfl
      rw [nameM_app_ok z ht hn h0]
      dsimp only
      rw [hS]
      have hat := attrsF_app z j (f + 1) r1 S oA t1 ha hin
      rw [show f + 1 + j = f + j + 1 by omega] at hat
      rw [hat]
      cases oA with
      | error r2 =>
        injection h with h
        subst h
        rfl
      | ok q2 =>
        obtain ⟨r2, s2⟩ := q2
        exact tail_app ih nm _ d r2 s2 o ((attrsF_ok _ _ _ _ _ ha).2.2.1 t1) h hi
theorem kx_all (N : Nat) (z : Bs) (j : Nat) : ∀ f, Kx N z j f
  | 0 => ⟨fun p d run r s o _ _ h => (by unfold contF at h; cases h), fun p d r s o _ h => (by unfold markF at h; cases h), fun p d r s o _ h => (by unfold elemF at h; cases h)⟩
  | f + 1 => ⟨kx_cont (kx_all N z j f), kx_mark (kx_all N z j f), kx_elem (kx_all N z j f)⟩
end Go.Proofs.YtemfmidhekdekaaGreatDoor.Ppa
namespace Go.Proofs.YtemfmidhekdekaaGreatDoor.Ppa
open Go Go.Lib Go.Proofs.YtemfmidhekdekaaGreatDoor.Ptr Go.Proofs.YtemfmidhekdekaaGreatDoor.Wps

end Go.Proofs.YtemfmidhekdekaaGreatDoor.Ppa
namespace Go.Proofs.YtemfmidhekdekaaGreatDoor.Ppa
open Go Go.Lib Go.Proofs.YtemfmidhekdekaaGreatDoor.Ptr Go.Proofs.YtemfmidhekdekaaGreatDoor.Wps

/-- an end, at a character -/
def Er (r t : Bs) : Prop := t <:+ r ∧ (Pch.textsL r = true → Pch.textsL t = true)
theorem Er.nil (r : Bs) : Er r [] := ⟨List.nil_suffix, fun _ => rfl⟩
theorem Er.trans {a b c : Bs} (h : Er a b) (k : Er b c) : Er a c := ⟨k.1.trans h.1, fun t => k.2 (h.2 t)⟩
theorem Er.low {x : UInt8} (t : Bs) (hx : x.toNat < 128) : Er (x :: t) t := ⟨List.suffix_cons _ _, texts_low hx⟩
/-- the same for an end of a right text -/
def Et (r t : Bs) : Prop := t <:+ r ∧ (Tx r → Pch.textsL t = true)
theorem Et.nil (r : Bs) : Et r [] := ⟨List.nil_suffix, fun _ => rfl⟩
theorem Et.suf {a b c : Bs} (h : b <:+ a) (k : Et b c) : Et a c := ⟨k.1.trans h, fun t => k.2 (t.suf h)⟩
end Go.Proofs.YtemfmidhekdekaaGreatDoor.Ppa
namespace Go.Proofs.YtemfmidhekdekaaGreatDoor.Ppa
open Go Go.Lib Go.Proofs.YtemfmidhekdekaaGreatDoor.Ptr Go.Proofs.YtemfmidhekdekaaGreatDoor.Wps

end Go.Proofs.YtemfmidhekdekaaGreatDoor.Ppa
namespace Go.Proofs.YtemfmidhekdekaaGreatDoor.Ppa
open Go Go.Lib Go.Proofs.YtemfmidhekdekaaGreatDoor.Ptr Go.Proofs.YtemfmidhekdekaaGreatDoor.Wps

theorem texts_cons {x : UInt8} {t : Bs} (hx : x.toNat < 128) (hc : Pch.charB (x.toNat : Int) = true) : Pch.textsL (x :: t) = Pch.textsL t := by
  unfold Pch.textsL
  rw [Pch.runes_step _ (by simp), decodeL_ascii x t hx, List.all_cons, hc]
  have ho : Pch.okR (x.toNat, 1) = true := by unfold Pch.okR; simp; omega
  rw [ho]
  rfl
theorem texts_char {x : UInt8} {t : Bs} (hx : x.toNat < 128) (h : Pch.textsL (x :: t) = true) : Pch.charB (x.toNat : Int) = true := by
  have := (texts_step (r := x :: t) (by simp) h).2.1
  rw [decodeL_ascii x t hx] at this
  exact this
theorem texts_take {r : Bs} (hne : r ≠ []) (h : Pch.textsL r = true) : Pch.textsL (r.take (decodeL r).2) = true := by
  have h2 := (texts_step hne h).2.2
  have h3 := Pch.texts_right (r.take (decodeL r).2) (skip r) h2
  unfold skip at h3
  rw [List.take_append_drop, h] at h3
  exact h3.symm
theorem encode_texts {n : Nat} (h : Pch.charB (n : Int) = true) : Pch.textsL (encodeRune (n : Int)) = true := by
  have hc := h
  rw [Pch.charB_iff] at hc
  have := Pch.runes_encode n (by omega) []
  rw [List.append_nil] at this
  unfold Pch.textsL
  rw [this, Pch.runes_nil, List.all_cons, h]
  have hr : Pch.okR (n, (encodeRune (n : Int)).length) = true := by
    unfold Pch.okR
    simp only [Bool.not_eq_true', decide_eq_false_iff_not]
    rintro ⟨h1, h2⟩
    have h1 : n = 65533 := h1
    subst h1
    revert h2
    decide
  rw [hr]
  rfl
/-! ### names -/
theorem peek_of {r : Bs} (h : r ≠ []) : peek r = ((decodeL r).1 : Int) := by unfold peek; rw [if_neg h]
theorem nameF_all : ∀ (f k : Nat) (r : Bs) (m : Nat), nameF f k r = .ok m → Pch.textsL r = true → k ≤ 100 → m ≤ 100 ∧ k ≤ m ∧ ((Pch.runes (r.take (m - k))).all fun p => Pch.okR p && Pch.nameB p.1) = true ∧ Pch.textsL (r.drop (m - k)) = true
  | 0, k, r, m, h, ht, hk => by
    rw [nameF] at h
    injection h with h
    subst h
    rw [Nat.sub_self]
    exact ⟨hk, Nat.le_refl _, rfl, ht⟩
  | f + 1, k, r, m, h, ht, hk => by
    cases hn : Pch.nameB (peek r) with
    | false =>
      rw [nameF_end (f + 1) k r hn] at h
      injection h with h
      subst h
      rw [Nat.sub_self]
      exact ⟨hk, Nat.le_refl _, rfl, ht⟩
    | true =>
      have hne := name_ne hn
      rw [nameF_step f k r hn] at h
      split at h
      · cases h
      · rename_i hle
        obtain ⟨a1, a2, a3, a4⟩ := nameF_all f _ (skip r) m h (texts_step hne ht).2.2 (by omega)
        have hw := decodeL_width r
        have hd := decodeL_le r hne
        refine ⟨a1, by omega, ?_, ?_⟩
        · have he : r.take (m - k) = r.take (decodeL r).2 ++ (skip r).take (m - (k + (decodeL r).2)) := by
            unfold skip
            conv => lhs; rw [show m - k = (decodeL r).2 + (m - (k + (decodeL r).2)) by omega]
            rw [List.take_add]
          have ho := Pch.ok_of_texts (texts_take hne ht)
          rw [he, Pch.runes_app _ _ _ (Nat.le_refl _) ho, List.all_append, a3, Bool.and_true]
          have hr : Pch.runes (r.take (decodeL r).2) = [decodeL r] := by
            have h1 := Pch.runes_app _ (r.take (decodeL r).2) (r.drop (decodeL r).2) (Nat.le_refl _) ho
            rw [List.take_append_drop, Pch.runes_step r hne] at h1
            have h2 : [decodeL r] ++ Pch.runes (r.drop (decodeL r).2) = Pch.runes (r.take (decodeL r).2) ++ Pch.runes (r.drop (decodeL r).2) := h1
            exact (List.append_cancel_right h2).symm
          rw [hr, List.all_cons, (texts_step hne ht).1]
          rw [peek_of hne] at hn
          rw [hn]
          rfl
        · unfold skip at a4
          rw [List.drop_drop] at a4
          rw [show m - k = (decodeL r).2 + (m - (k + (decodeL r).2)) by omega]
          exact a4
theorem nameM_name {r nm t : Bs} (h : nameM r = .ok (nm, t)) (ht : Pch.textsL r = true) : Pch.nameL nm = true := by
  have h0 := nameM_ok h
  unfold nameM at h
  split at h
  · rename_i hs
    cases hF : nameF r.length 0 r with
    | error k => rw [hF] at h; cases h
    | ok k =>
      rw [hF] at h
      injection h with h
      injection h with h1 h2
      obtain ⟨a1, _, a3, a4⟩ := nameF_all _ 0 r k hF ht (by omega)
      rw [Nat.sub_zero] at a3 a4
      have hne := start_ne hs
      have hk : 0 < k := by
        rcases Nat.eq_zero_or_pos k with e | e
        · subst e; rw [← h1] at h0; simp at h0
        · exact e
      have ht2 : Pch.textsL nm = true := by
        have := Pch.texts_right nm t (h0.2.2 ht)
        rw [← h0.1, ht] at this
        exact this.symm
      unfold Pch.nameL
      rw [Bool.and_eq_true, decide_eq_true_eq]
      refine ⟨?_, ?_⟩
      · rw [← h1, List.length_take]; omega
      · rw [h1] at a3
        have hnn : nm ≠ [] := by intro e; rw [e] at h0; simp at h0
        have hd : decodeL r = decodeL nm := by rw [h0.1]; exact Pch.decode_app nm t hnn (texts_step hnn ht2).1
        rw [Pch.runes_step nm hnn] at a3 ⊢
        rw [List.all_cons, Bool.and_eq_true] at a3
        rw [peek_of hne, hd] at hs
        simp only [Pch.headB, hs, a3.2, (texts_step hnn ht2).1, Bool.and_self]
  · cases h
/-! ### line ends made one -/
theorem said_app_high : ∀ (u t : Bs), (∀ y ∈ u, 128 ≤ y.toNat) → said (u ++ t) = u ++ said t
  | [], t, _ => rfl
  | x :: u, t, h => by
    have hx := h x (by simp)
    rw [List.cons_append, said_other (fun e => by rw [e] at hx; revert hx; decide), said_app_high u t fun y hy => h y (by simp [hy])]
    rfl
theorem said_texts : ∀ (n : Nat) (v : Bs), v.length ≤ n → Pch.textsL v = true → Pch.textsL (said v) = true
  | _, [], _, _ => rfl
  | 0, _ :: _, h, _ => by simp at h
  | n + 1, x :: t, h, ht => by
    rcases Nat.lt_or_ge x.toNat 128 with hx | hx
    · have h2 := texts_low hx ht
      have hc := texts_char hx ht
      by_cases h13 : x = 13
      · subst h13
        by_cases h10 : t.head? = some 10
        · obtain ⟨u, rfl⟩ := head_cons h10
          rw [said_two, texts_cons (by decide) (by decide)]
          exact said_texts n u (by simp at h; omega) (texts_low (by decide) h2)
        · rw [said_one h10, texts_cons (by decide) (by decide)]
          exact said_texts n t (by simpa using h) h2
      · rw [said_other h13, texts_cons hx hc]
        exact said_texts n t (by simpa using h) h2
    · have hne : (x :: t) ≠ [] := by simp
      have hw := decodeL_width (x :: t)
      have h1 := texts_take hne ht
      have h2 := (texts_step hne ht).2.2
      have h3 := said_app_high _ (skip (x :: t)) (char_high hx ht)
      unfold skip at h2 h3
      rw [List.take_append_drop] at h3
      rw [h3, Pch.texts_left _ _ h1]
      exact said_texts n _ (by rw [List.length_drop]; omega) h2
theorem said_head {b : UInt8} (hb : b ≠ 10) : ∀ t : Bs, (said t).head? = some b → t.head? = some b := by
  intro t h
  cases t with
  | nil => exact h
  | cons x u =>
    by_cases h13 : x = 13
    · subst h13
      exfalso
      by_cases h10 : u.head? = some 10
      · obtain ⟨v, rfl⟩ := head_cons h10
        rw [said_two] at h
        injection h with h
        exact hb h.symm
      · rw [said_one h10] at h
        injection h with h
        exact hb h.symm
    · rw [said_other h13] at h
      exact h
theorem has2_cons {a b x : UInt8} {t : Bs} : has2 a b (x :: t) = ((x == a && t.head? == some b) || has2 a b t) := by
  cases t with
  | nil => simp [has2]
  | cons y u => rw [has2]; rfl
theorem said_has2 {a b : UInt8} (ha : a ≠ 10) (hb : b ≠ 10) : ∀ (n : Nat) (v : Bs), v.length ≤ n → has2 a b v = false → has2 a b (said v) = false
  | _, [], _, _ => rfl
  | 0, _ :: _, h, _ => by simp at h
  | n + 1, x :: t, h, hv => by
    rw [has2_cons, Bool.or_eq_false_iff] at hv
    have ih := said_has2 ha hb n t (by simpa using h) hv.2
    have h10 : ∀ u : Bs, has2 a b u = false → has2 a b (10 :: u) = false := fun u hu => by
      rw [has2_cons, hu, Bool.or_false]
      have : ((10 : UInt8) == a) = false := by simpa using fun e => ha e.symm
      rw [this]; rfl
    by_cases h13 : x = 13
    · subst h13
      by_cases h1 : t.head? = some 10
      · obtain ⟨u, rfl⟩ := head_cons h1
        rw [said_two]
        have hu : has2 a b u = false := by
          have := hv.2
          rw [has2_cons, Bool.or_eq_false_iff] at this
          exact this.2
        exact h10 _ (said_has2 ha hb n u (by simp at h; omega) hu)
      · rw [said_one h1]
        exact h10 _ ih
    · rw [said_other h13, has2_cons, ih, Bool.or_false]
      cases hx : (x == a) with
      | false => rfl
      | true =>
        have h1 := hv.1
        rw [hx, Bool.true_and] at h1
        rw [Bool.true_and]
        cases h2 : ((said t).head? == some b) with
        | false => rfl
        | true =>
          rw [beq_iff_eq] at h2
          rw [said_head hb t h2] at h1
          simp at h1
theorem said_snoc {c : UInt8} (h1 : c ≠ 10) (h2 : c ≠ 13) : ∀ (n : Nat) (v : Bs), v.length ≤ n → said (v ++ [c]) = said v ++ [c]
  | _, [], _ => by show said (c :: []) = [c]; rw [said_other h2]; rfl
  | 0, _ :: _, h => by simp at h
  | n + 1, x :: t, h => by
    by_cases h13 : x = 13
    · subst h13
      by_cases h10 : t.head? = some 10
      · obtain ⟨u, rfl⟩ := head_cons h10
        rw [said_two, List.cons_append, List.cons_append, said_two, said_snoc h1 h2 n u (by simp at h; omega)]
        rfl
      · rw [said_one h10, List.cons_append, said_one (by
          cases t with
          | nil => simpa using h1
          | cons y u => simpa using h10), said_snoc h1 h2 n t (by simpa using h)]
        rfl
    · rw [said_other h13, List.cons_append, said_other h13, said_snoc h1 h2 n t (by simpa using h)]
      rfl
theorem has2_snoc {a b c : UInt8} : ∀ l : Bs, has2 a b (l ++ [c]) = false → has2 a b l = false ∧ ¬ (l.getLast? = some a ∧ c = b)
  | [], _ => ⟨rfl, by simp⟩
  | x :: t, h => by
    rw [List.cons_append, has2_cons, Bool.or_eq_false_iff] at h
    obtain ⟨i1, i2⟩ := has2_snoc t h.2
    cases t with
    | nil =>
      refine ⟨rfl, ?_⟩
      rintro ⟨h1, rfl⟩
      have h1 : x = a := by simpa using h1
      subst h1
      have h2 := h.1
      simp at h2
    | cons y u =>
      refine ⟨?_, ?_⟩
      · rw [has2_cons, i1, Bool.or_false]
        exact h.1
      · rw [List.getLast?_cons_cons]
        exact i2
theorem until_has2 {a b : UInt8} : ∀ (r v t : Bs), untilM [a, b] r = some (v, t) → has2 a b (v ++ [a]) = false ∨ a = b ∧ has2 a b (v ++ [a]) = false
  | [], v, t, h => by unfold untilM at h; simp at h
  | x :: u, v, t, h => by
    unfold untilM at h
    split at h
    · injection h with h
      injection h with h1 h2
      subst h1
      exact .inl rfl
    · rename_i hp
      cases hu : untilM [a, b] u with
      | none => rw [hu] at h; cases h
      | some q =>
        obtain ⟨v', t'⟩ := q
        rw [hu] at h
        injection h with h
        injection h with h1 h2
        dsimp only at h1
        subst h1
        have ih := until_has2 u v' t' hu
        have ih : has2 a b (v' ++ [a]) = false := by rcases ih with ih | ih; exact ih; exact ih.2
        refine .inl ?_
        rw [List.cons_append, has2_cons, ih, Bool.or_false]
        have happ := untilM_app _ u v' t' hu
        have hh : (v' ++ [a]).head? = u.head? := by
          rw [happ]
          cases v' with
          | nil => rfl
          | cons y z => rfl
        rw [hh]
        cases hx : (x == a) with
        | false => rfl
        | true =>
          rw [Bool.true_and]
          cases hb : (u.head? == some b) with
          | false => rfl
          | true =>
            exfalso
            rw [beq_iff_eq] at hx hb
            obtain ⟨z, rfl⟩ := head_cons hb
            subst hx
            exact hp (by unfold hasPrefix; simp)
theorem until_no2 {a b : UInt8} {r v t : Bs} (h : untilR [a, b] r = .ok (v, t)) : has2 a b (v ++ [a]) = false := by
  unfold untilR at h
  cases hu : untilM [a, b] r with
  | none => rw [hu] at h; cases h
  | some q =>
    rw [hu] at h
    injection h with h
    subst h
    rcases until_has2 _ _ _ hu with h | h
    · exact h
    · exact h.2
theorem until_texts {c : UInt8} {e r v t : Bs} (h : untilR (c :: e) r = .ok (v, t)) (hl : ∀ x ∈ c :: e, x.toNat < 128) (hr : Pch.textsL r = true) : Pch.textsL v = true := by
  have h1 := untilR_ok h
  have h2 : Pch.textsL (c :: e ++ t) = true := texts_suf hr ⟨v, by rw [h1]; simp⟩ (hl c (by simp))
  have h3 := Pch.texts_right v (c :: e ++ t) h2
  rw [← List.append_assoc, ← h1, hr] at h3
  exact h3.symm
/-! ### references and values -/
theorem numG_char {hex : Bool} : ∀ (r : Bs) (n : Nat) (any : Bool) (m : Nat) (t : Bs), numG hex n any r = .ok (m, t) → Pch.charB (m : Int) = true ∧ (59 :: t) <:+ r
  | [], n, any, m, t, h => by rw [numG] at h; cases h
  | y :: u, n, any, m, t, h => by
    cases hd : digO hex (y :: u) with
    | some d =>
      rw [numG_more hd] at h
      generalize n * (if hex = true then 16 else 10) + d = z at h
      split at h
      · cases h
      · have := numG_char u _ true m t h
        exact ⟨this.1, this.2.trans (List.suffix_cons _ _)⟩
    | none =>
      rw [numG_end hd] at h
      split at h
      · cases h
      · rename_i hc
        injection h with h
        injection h with h1 h2
        subst h1 h2
        have h3 : ¬ peek (y :: u) ≠ 59 := fun e => hc (.inr (.inl e))
        have h3 : peek (y :: u) = 59 := Classical.byContradiction h3
        have h3 : (y :: u).head? = some 59 := (peek_is 59 (by decide) _).1 h3
        injection h3 with h3
        subst h3
        exact ⟨by cases hb : Pch.charB (n : Int) with
          | true => rfl
          | false => exact absurd (.inr (.inr hb)) hc, List.suffix_refl _⟩
theorem isM_char {a r t : Bs} {n m : Nat} (h : isM (a ++ [59]) n r = .ok (m, t)) : m = n ∧ (59 :: t) <:+ r := by
  unfold isM at h
  cases hm : mustL (a ++ [59]) r with
  | ok u =>
    rw [hm] at h
    injection h with h
    injection h with h1 h2
    subst h1 h2
    have := mustL_app _ _ _ hm
    exact ⟨rfl, ⟨a, by rw [this]; simp⟩⟩
  | error u => rw [hm] at h; cases h
theorem refM_char {r t : Bs} {n : Nat} (h : refM r = .ok (n, t)) : Pch.charB (n : Int) = true ∧ (59 :: t) <:+ r := by
  by_cases h1 : r.head? = some 35
  · obtain ⟨u, rfl⟩ := head_cons h1
    rw [refM_num] at h
    by_cases hx : u.head? = some 120
    · obtain ⟨v, rfl⟩ := head_cons hx
      have := numG_char v 0 false n t h
      exact ⟨this.1, (this.2.trans (List.suffix_cons _ _)).trans (List.suffix_cons _ _)⟩
    · have e : numM u = numG false 0 false u := by
        unfold numM
        split
        · exact absurd rfl hx
        · rfl
      rw [e] at h
      have := numG_char u 0 false n t h
      exact ⟨this.1, this.2.trans (List.suffix_cons _ _)⟩
  · by_cases h2 : r.head? = some 108
    · obtain ⟨u, rfl⟩ := head_cons h2
      rw [refM_l] at h
      obtain ⟨e, hs⟩ := isM_char (a := [108, 116]) h
      subst e
      exact ⟨by decide, hs⟩
    · by_cases h3 : r.head? = some 103
      · obtain ⟨u, rfl⟩ := head_cons h3
        rw [refM_g] at h
        obtain ⟨e, hs⟩ := isM_char (a := [103, 116]) h
        subst e
        exact ⟨by decide, hs⟩
      · by_cases h4 : r.head? = some 113
        · obtain ⟨u, rfl⟩ := head_cons h4
          rw [refM_q] at h
          obtain ⟨e, hs⟩ := isM_char (a := [113, 117, 111, 116]) h
          subst e
          exact ⟨by decide, hs⟩
        · by_cases h5 : r.head? = some 97
          · obtain ⟨u, rfl⟩ := head_cons h5
            by_cases h6 : u.head? = some 109
            · obtain ⟨v, rfl⟩ := head_cons h6
              rw [refM_am] at h
              obtain ⟨e, hs⟩ := isM_char (a := [109, 112]) h
              subst e
              exact ⟨by decide, hs.trans (List.suffix_cons _ _)⟩
            · rw [refM_a h6] at h
              obtain ⟨e, hs⟩ := isM_char (a := [112, 111, 115]) h
              subst e
              exact ⟨by decide, hs.trans (List.suffix_cons _ _)⟩
          · rw [refM_none h1 h2 h3 h4 h5] at h
            cases h
theorem refM_texts {r t : Bs} {n : Nat} (h : refM r = .ok (n, t)) (ht : Pch.textsL r = true) : Pch.textsL t = true := texts_tail ht (refM_char h).2 (by decide)
theorem valF_short (q : UInt8) (hq : q.toNat < 128) {o : Except Bs (Bs × Bs)} : ∀ (u : Bs) (f : Nat) (acc t : Bs), (∀ y ∈ u, 128 ≤ y.toNat) → f < u.length → valF q f acc (u ++ t) = some o → False
  | [], f, _, _, _, hf, _ => by simp at hf
  | x :: u, 0, _, _, _, _, he => by cases he
  | x :: u, f + 1, acc, t, h, hf, he => by
    rw [List.cons_append, valF_high q hq f acc x (u ++ t) (h x (by simp))] at he
    exact valF_short q hq u f _ t (fun y hy => h y (by simp [hy])) (by simpa using hf) he
theorem nlL_texts {u : Bs} (h : Pch.textsL u = true) : Pch.textsL (nlL u) = true := by
  unfold nlL
  split
  · exact texts_low (by decide) h
  · exact h
theorem blank_low {x : UInt8} (h : Pch.blankC x = true) : x.toNat < 128 := blankC_low h
theorem valF_texts (q : UInt8) (hq : q.toNat < 128) : ∀ (n f : Nat) (acc r v t : Bs), f ≤ n → valF q f acc r = some (.ok (v, t)) → Pch.textsL acc = true → Pch.textsL r = true → Pch.textsL v = true
  | _, 0, _, _, _, _, _, h, _, _ => by cases h
  | 0, f + 1, _, _, _, _, hn, _, _, _ => by omega
  | n + 1, f + 1, acc, [], v, t, _, h, _, _ => by rw [valF] at h; cases h
  | n + 1, f + 1, acc, x :: u, v, t, hn, h, ha, hr => by
    rcases Nat.lt_or_ge x.toNat 128 with hx | hx
    · have hu := texts_low hx hr
      have hc := texts_char hx hr
      have put : ∀ (c : UInt8), c.toNat < 128 → Pch.charB (c.toNat : Int) = true → Pch.textsL (acc ++ [c]) = true := fun c h1 h2 => by rw [Pch.texts_left _ _ ha, texts_cons h1 h2]; rfl
      rw [valF] at h
      split at h
      · injection h with h
        injection h with h
        injection h with h1 h2
        subst h1
        exact ha
      · split at h
        · cases h
        · split at h
          · cases hf : refM u with
            | error z => rw [hf] at h; cases h
            | ok p =>
              obtain ⟨m, z⟩ := p
              rw [hf] at h
              exact valF_texts q hq n f _ z v t (by omega) h (by rw [Pch.texts_left _ _ ha]; exact encode_texts (refM_char hf).1) (refM_texts hf hu)
          · split at h
            · exact valF_texts q hq n f _ _ v t (by omega) h (put 32 (by decide) (by decide)) (nlL_texts hu)
            · split at h
              · exact valF_texts q hq n f _ _ v t (by omega) h (put 32 (by decide) (by decide)) hu
              · exact valF_texts q hq n f _ _ v t (by omega) h (put x hx hc) hu
    · have hne : (x :: u) ≠ [] := by simp
      have hw := decodeL_width (x :: u)
      have hd := decodeL_le (x :: u) hne
      have hz : ((x :: u).take (decodeL (x :: u)).2).length = (decodeL (x :: u)).2 := by rw [List.length_take]; omega
      rcases Nat.lt_or_ge (f + 1) (decodeL (x :: u)).2 with hg | hg
      · exfalso
        exact valF_short q hq ((x :: u).take (decodeL (x :: u)).2) (f + 1) acc ((x :: u).drop (decodeL (x :: u)).2) (char_high hx hr) (by omega) (by rw [List.take_append_drop]; exact h)
      · have hc := valF_copy q hq ((x :: u).take (decodeL (x :: u)).2) (f + 1 - (decodeL (x :: u)).2) acc ((x :: u).drop (decodeL (x :: u)).2) (char_high hx hr)
        rw [hz, List.take_append_drop, show f + 1 - (decodeL (x :: u)).2 + (decodeL (x :: u)).2 = f + 1 by omega, h] at hc
        exact valF_texts q hq n _ _ _ v t (by omega) hc.symm (by rw [Pch.texts_left _ _ ha]; exact texts_take hne hr) (texts_step hne hr).2.2
theorem valM_val {r v t : Bs} (h : valM r = .ok (v, t)) (hr : Pch.textsL r = true) : Pch.textsL v = true := by
  unfold valM at h
  split at h
  · rename_i x u
    split at h
    · rename_i hq
      have hx : x.toNat < 128 := by rcases hq with rfl | rfl <;> decide
      cases hF : valF x (u.length + 1) [] u with
      | none => rw [hF] at h; cases h
      | some o =>
        rw [hF] at h
        dsimp only at h
        subst h
        exact valF_texts x hx _ _ [] u v t (Nat.le_refl _) hF rfl (texts_low hx hr)
    · cases h
  · cases h
theorem said_blank {r v t : Bs} (h : untilR [63, 62] (blanksL r) = .ok (v, t)) : noBlank (said v) = true := by
  cases v with
  | nil => rfl
  | cons x u =>
    have h1 := untilR_ok h
    have hx : Pch.blankC x = false := by
      have : (blanksL r).head? = some x := by rw [h1]; rfl
      unfold blanksL at this
      have h2 := List.head?_dropWhile_not Pch.blankC r
      rw [this] at h2
      simpa using h2
    have h13 : x ≠ 13 := fun e => by rw [e] at hx; revert hx; decide
    rw [said_other h13]
    show (!Pch.blankC x) = true
    rw [hx]
    rfl
end Go.Proofs.YtemfmidhekdekaaGreatDoor.Ppa
namespace Go.Proofs.YtemfmidhekdekaaGreatDoor.Ptr
open Go

section
variable {L M : List Nd} {q : Int}
theorem kin_app {i : Nat} (h : i < L.length) : kin (L ++ M) i = kin L i := by unfold kin; simp [List.getElem?_append_left h, h]
theorem nam_app {i : Nat} (h : i < L.length) : nam (L ++ M) i = nam L i := by unfold nam; simp [List.getElem?_append_left h, h]
theorem val_app {i : Nat} (h : i < L.length) : val (L ++ M) i = val L i := by unfold val; simp [List.getElem?_append_left h, h]
theorem par_app {i : Nat} (h : i < L.length) : par (L ++ M) i = par L i := by unfold par; simp [List.getElem?_append_left h, h]
theorem kin_new (x : Nd) (M : List Nd) : kin (L ++ x :: M) L.length = x.1 := by unfold kin; simp
theorem nam_new (x : Nd) (M : List Nd) : nam (L ++ x :: M) L.length = x.2.1 := by unfold nam; simp
theorem val_new (x : Nd) (M : List Nd) : val (L ++ x :: M) L.length = x.2.2.1 := by unfold val; simp
theorem par_new (x : Nd) (M : List Nd) : par (L ++ x :: M) L.length = x.2.2.2 := by unfold par; simp
theorem chain_app (hr : Rng L L.length) : ∀ (f : Nat) (p : Int), p < L.length → chain (L ++ M) q f p = chain L q f p
  | 0, _, _ => rfl
  | f + 1, p, hp => by
    rw [chain_at, chain_at]
    split
    · rfl
    · split
      · rfl
      · have h := hr p.toNat (by omega)
        rw [par_app (by omega)]
        exact chain_app hr f _ (by omega)
theorem openB_app (hr : Rng L L.length) {i : Nat} (hi : i < L.length) : openB (L ++ M) i = openB L i := by
  unfold openB
  rw [par_app hi]
  exact chain_app hr _ _ (by omega)
theorem lastC_app : ∀ i, i ≤ L.length → lastC (L ++ M) q i = lastC L q i
  | 0, _ => rfl
  | i + 1, h => by rw [lastC_step, lastC_step, par_app (by omega), kin_app (by omega), lastC_app i (by omega)]
theorem freeB_app {x : List UInt8} {a : Nat} : ∀ i, i ≤ L.length → freeB (L ++ M) x a i = freeB L x a i
  | 0, _ => rfl
  | i + 1, h => by rw [freeB_step, freeB_step, nam_app (by omega), freeB_app i (by omega)]
theorem dep_app (hr : Rng L L.length) : ∀ (f i : Nat), i < L.length → dep (L ++ M) f i = dep L f i
  | 0, _, _ => rfl
  | f + 1, i, hi => by
    have h := hr i hi
    rw [dep, dep, kin_app hi, par_app hi]
    by_cases hp : par L i < 0
    · rw [if_pos hp, if_pos hp]
    · rw [if_neg hp, if_neg hp, dep_app hr f _ (by omega)]
theorem depN_app (hr : Rng L L.length) {i : Nat} (hi : i < L.length) : depN (L ++ M) i = depN L i := dep_app hr _ _ hi
theorem insideB_app (h : q < L.length) (h0 : 0 < L.length) : insideB (L ++ M) q = insideB L q := by
  unfold insideB; rw [kin_app (by omega)]
theorem underB_app (h : q < L.length) (h0 : 0 < L.length) : underB (L ++ M) q = underB L q := by
  unfold underB; rw [kin_app (by omega)]
theorem elemB_app (h : q < L.length) (h0 : 0 < L.length) : elemB (L ++ M) q = elemB L q := by
  unfold elemB; rw [kin_app (by omega)]
theorem fitsK_app (hr : Rng L L.length) {i : Nat} (hi : i < L.length) : fitsK (L ++ M) i = fitsK L i := by
  have h := hr i hi
  have hl := lastC_lt L (par L i) i
  unfold fitsK
  rw [kin_app hi, nam_app hi, val_app hi, par_app hi, lastC_app i (by omega), freeB_app i (by omega), insideB_app (by omega) (by omega), elemB_app (by omega) (by omega), underB_app (by omega) (by omega)]
  by_cases h0 : lastC L (par L i) i < 0
  · rw [decide_eq_true h0]
    rfl
  · rw [kin_app (by omega)]
theorem elems_app : ∀ i, i ≤ L.length → elems (L ++ M) i = elems L i
  | 0, _ => rfl
  | i + 1, h => by
    show elems (L ++ M) i + _ = elems L i + _
    rw [elems_app i (by omega), kin_app (by omega), par_app (by omega)]
end
/-- right, but for a value's length -/
def goodT (l : List Nd) (root : Bool) (i : Nat) : Bool := openB l i && (if (root && i == 0) = true then headB l i else Pch.textsL (val l i) && fitsK l i)
theorem goodT_app {L M : List Nd} {root : Bool} (hr : Rng L L.length) {i : Nat} (hi : i < L.length) : goodT (L ++ M) root i = goodT L root i := by
  unfold goodT headB
  rw [openB_app hr hi, kin_app hi, nam_app hi, val_app hi, fitsK_app hr hi]
/-- the way up -/
inductive Up (L : List Nd) (q : Int) : Int → Prop
  | here : Up L q q
  | step {p : Int} : 0 ≤ p → Up L q (par L p.toNat) → Up L q p
theorem up_app {L M : List Nd} {q p : Int} (hr : Rng L L.length) (h : Up L q p) : p < L.length → Up (L ++ M) q p := by
  induction h with
  | here => exact fun _ => .here
  | @step p h0 _ ih =>
    intro hp
    have h1 := hr p.toNat (by omega)
    refine .step h0 ?_
    rw [par_app (by omega)]
    exact ih (by omega)
theorem up_trans {L : List Nd} {r q p : Int} (h : Up L q p) (h2 : Up L r q) : Up L r p := by
  induction h with
  | here => exact h2
  | step h0 _ ih => exact .step h0 ih
theorem chain_of_up {L : List Nd} {n : Nat} {q p : Int} (hr : Rng L n) (h : Up L q p) : p < n → -1 ≤ p → ∀ f : Nat, p + 1 < f → chain L q f p = true := by
  induction h with
  | here =>
    intro _ _ f hf
    obtain ⟨g, rfl⟩ : ∃ g, f = g + 1 := ⟨f - 1, by omega⟩
    rw [chain_at, if_pos rfl]
  | @step p h0 _ ih =>
    intro hp _ f hf
    obtain ⟨g, rfl⟩ : ∃ g, f = g + 1 := ⟨f - 1, by omega⟩
    have h1 := hr p.toNat (by omega)
    rw [chain_at]
    split
    · rfl
    · rw [if_neg (by omega)]
      exact ih (by omega) (by omega) g (by omega)
/-- under p, so many elements deep, the next node may stand -/
structure Nw (root : Bool) (L : List Nd) (p : Int) (d : Nat) : Prop where
  rng : Rng L L.length
  gd : ∀ k, k < L.length → goodT L root k = true
  lo : -1 ≤ p
  hi : p < L.length
  up : Up L p ((L.length : Int) - 1)
  kp : p < 0 ∨ kin L p.toNat = 1 ∨ kin L p.toNat = 2
  dp : d = if p < 0 then 0 else depN L p.toNat
  dd : ∀ k, k < L.length → kin L k = 2 → depN L k ≤ 60
  bel : ∀ k : Nat, p < k → k < L.length → p ≤ par L k
  rp : root = true → 0 ≤ p ∧ ∀ k, k < L.length → par L k < 0 → k = 0
/-- what a new node wants, but for an attribute and a text -/
def okN (x : Nd) : Prop := (x.1 = 2 ∧ Pch.nameL x.2.1 = true ∧ x.2.2.1 = []) ∨ (x.1 = 5 ∧ x.2.1 = [] ∧ has2 45 45 x.2.2.1 = false ∧ x.2.2.1.getLast? ≠ some 45) ∨ (x.1 = 6 ∧ Pch.nameL x.2.1 = true ∧ isXml x.2.1 = false ∧ has2 63 62 x.2.2.1 = false ∧ noBlank x.2.2.1 = true)
section
variable {root : Bool} {L : List Nd} {p : Int} {d : Nat}
theorem Nw.inside (h : Nw root L p d) (M : List Nd) : insideB (L ++ M) p = true := by
  unfold insideB
  rcases Int.lt_or_le p 0 with h0 | h0
  · rw [decide_eq_true h0]; rfl
  · have := h.hi
    rw [kin_app (by omega)]
    rcases h.kp with hk | hk | hk
    · omega
    · rw [hk]; simp
    · rw [hk]; simp
theorem Nw.under (h : Nw root L p d) (hu : p < 0 ∨ kin L p.toNat = 2) (M : List Nd) : underB (L ++ M) p = true := by
  unfold underB
  rcases Int.lt_or_le p 0 with h0 | h0
  · rw [decide_eq_true h0]; rfl
  · have := h.hi
    rw [kin_app (by omega)]
    rcases hu with hk | hk
    · omega
    · rw [hk]; simp
theorem fits_ok {x : Nd} (h : Nw root L p d) (hx : okN x) (hp : x.2.2.2 = p) : fitsK (L ++ [x]) L.length = true := by
  have hi := h.inside [x]
  unfold fitsK
  rw [kin_new, nam_new, val_new, par_new, hp, hi]
  rcases hx with ⟨h1, h2, h3⟩ | ⟨h1, h2, h3, h4⟩ | ⟨h1, h2, h3, h4, h5⟩
  · rw [h1, h2, h3]; rfl
  · rw [h1, h2, h3, decide_eq_false h4]; rfl
  · rw [h1, h2, h3, h4, h5]; rfl
theorem Nw.grow (h : Nw root L p d) {x : Nd} (hp : x.2.2.2 = p) (ht : Pch.textsL x.2.2.1 = true) (hf : fitsK (L ++ [x]) L.length = true) (hd : x.1 = 2 → d + 1 ≤ 60) (h0 : root = true → 0 < L.length) :
    Nw root (L ++ [x]) p d ∧ depN (L ++ [x]) L.length = (if x.1 = 2 then 1 else 0) + d := by
  have hlen : (L ++ [x]).length = L.length + 1 := by simp
  have hlo := h.lo
  have hhi := h.hi
  have hrng : Rng (L ++ [x]) (L.length + 1) := by
    intro k hk
    by_cases e : k = L.length
    · subst e
      rw [par_new, hp]
      exact ⟨hlo, hhi⟩
    · rw [par_app (by omega)]
      exact h.rng k (by omega)
  have hup : Up (L ++ [x]) p ((L.length : Int) - 1) := up_app h.rng h.up (by omega)
  have hdep : depN (L ++ [x]) L.length = (if x.1 = 2 then 1 else 0) + d := by
    rw [depN_step hrng L.length (by omega), kin_new, par_new, hp, h.dp]
    by_cases hp0 : p < 0
    · rw [if_pos hp0, if_pos hp0]
    · rw [if_neg hp0, if_neg hp0, depN_app h.rng (by omega)]
  refine ⟨⟨by rw [hlen]; exact hrng, ?_, hlo, by omega, ?_, ?_, ?_, ?_, ?_, ?_⟩, hdep⟩
  · intro k hk
    by_cases e : k = L.length
    · subst e
      unfold goodT openB
      rw [par_new, hp, chain_of_up (n := L.length) (fun j hj => hrng j (by omega)) hup (by omega) (by omega) _ (by omega), val_new, ht, hf]
      cases root with
      | false => rfl
      | true =>
        have := h0 rfl
        have e2 : (L.length == 0) = false := beq_false_of_ne (by omega)
        rw [e2]; rfl
    · rw [goodT_app h.rng (by omega)]
      exact h.gd k (by omega)
  · have e : (((L ++ [x]).length : Nat) : Int) - 1 = (L.length : Int) := by rw [hlen]; omega
    rw [e]
    refine .step (by omega) ?_
    rw [Int.toNat_natCast, par_new, hp]
    exact .here
  · rcases Int.lt_or_le p 0 with e | e
    · exact .inl e
    · rw [kin_app (by omega)]
      exact h.kp
  · rw [h.dp]
    by_cases hp0 : p < 0
    · rw [if_pos hp0, if_pos hp0]
    · rw [if_neg hp0, if_neg hp0, depN_app h.rng (by omega)]
  · intro k hk h2
    by_cases e : k = L.length
    · subst e
      rw [kin_new] at h2
      rw [hdep, if_pos h2]
      have := hd h2
      omega
    · rw [kin_app (by omega)] at h2
      rw [depN_app h.rng (by omega)]
      exact h.dd k (by omega) h2
  · intro k hk1 hk2
    by_cases e : k = L.length
    · subst e
      rw [par_new, hp]
      exact Int.le_refl _
    · rw [par_app (by omega)]
      exact h.bel k hk1 (by omega)
  · intro hr
    refine ⟨(h.rp hr).1, fun k hk hn => ?_⟩
    by_cases e : k = L.length
    · subst e
      rw [par_new, hp] at hn
      have := (h.rp hr).1
      omega
    · rw [par_app (by omega)] at hn
      exact (h.rp hr).2 k (by omega) hn
/-- the last one that is no attribute is no text -/
def NT (L : List Nd) (p : Int) : Prop := lastC L p L.length < 0 ∨ kin L (lastC L p L.length).toNat ≠ 4
theorem nt_new {x : Nd} (hp : x.2.2.2 = p) (h3 : x.1 ≠ 3) (h4 : x.1 ≠ 4) : NT (L ++ [x]) p := by
  refine .inr ?_
  have e : (L ++ [x]).length = L.length + 1 := by simp
  rw [e, lastC_step, par_new, kin_new, if_pos ⟨hp, h3⟩, Int.toNat_natCast, kin_new]
  exact h4
theorem fits_text {v : List UInt8} (h : Nw root L p d) (hu : p < 0 ∨ kin L p.toNat = 2) (hn : NT L p) (hv : v ≠ []) : fitsK (L ++ [(4, [], v, p)]) L.length = true := by
  have hi := h.under hu [(4, [], v, p)]
  have hl := lastC_lt L p L.length
  unfold fitsK
  rw [kin_new, nam_new, val_new, par_new]
  simp only [hi]
  rw [lastC_app _ (Nat.le_refl _)]
  rcases hn with hn | hn
  · rw [decide_eq_true hn]
    simp [hv]
  · by_cases h0 : lastC L p L.length < 0
    · rw [decide_eq_true h0]
      simp [hv]
    · rw [kin_app (by omega), decide_eq_false h0, decide_eq_false hn]
      simp [hv]
/-- into an element that has just been put -/
theorem Nw.into {nm : List UInt8} (h : Nw root (L ++ [(2, nm, [], p)]) p d) (hd : depN (L ++ [(2, nm, [], p)]) L.length = 1 + d) : Nw root (L ++ [(2, nm, [], p)]) (L.length : Int) (d + 1) := by
  have hlen : (L ++ [(2, nm, [], p)]).length = L.length + 1 := by simp
  refine ⟨h.rng, h.gd, by omega, by omega, ?_, .inr (.inr ?_), ?_, h.dd, fun k h1 h2 => by omega, fun hr => ⟨by omega, (h.rp hr).2⟩⟩
  · have e : (((L ++ [(2, nm, [], p)]).length : Nat) : Int) - 1 = (L.length : Int) := by rw [hlen]; omega
    rw [e]
    exact .here
  · rw [Int.toNat_natCast, kin_new]
  · rw [if_neg (by omega), Int.toNat_natCast, hd, Nat.add_comm]
theorem nt_into {nm : List UInt8} (h : Nw root (L ++ [(2, nm, [], p)]) p d) : lastC (L ++ [(2, nm, [], p)]) (L.length : Int) (L ++ [(2, nm, [], p)]).length = -1 := lastC_low h.rng _ _ (Nat.le_refl _) (by simp)
/-- out of an element -/
theorem Nw.out {nm : List UInt8} {M : List Nd} (h0 : Nw root (L ++ [(2, nm, [], p)]) p d) (h : Nw root (L ++ [(2, nm, [], p)] ++ M) (L.length : Int) (d + 1)) : Nw root (L ++ [(2, nm, [], p)] ++ M) p d ∧ NT (L ++ [(2, nm, [], p)] ++ M) p := by
  have hlen : (L ++ [(2, nm, [], p)]).length = L.length + 1 := by simp
  have h1 := h0.hi
  have hpn : p < (L.length : Int) := by
    have := h0.rng L.length (by omega)
    rw [par_new] at this
    exact this.2
  have hlo := h0.lo
  have hpar : par (L ++ [(2, nm, [], p)] ++ M) L.length = p := by rw [par_app (by omega), par_new]
  have hkin : kin (L ++ [(2, nm, [], p)] ++ M) L.length = 2 := by rw [kin_app (by omega), kin_new]
  have hle : L.length + 1 ≤ (L ++ [(2, nm, [], p)] ++ M).length := by rw [List.length_append, hlen]; omega
  refine ⟨⟨h.rng, h.gd, hlo, by omega, ?_, ?_, ?_, h.dd, ?_, fun hr => ⟨(h0.rp hr).1, (h.rp hr).2⟩⟩, ?_⟩
  · refine up_trans h.up (.step (by omega) ?_)
    rw [Int.toNat_natCast, hpar]
    exact .here
  · rcases Int.lt_or_le p 0 with e | e
    · exact .inl e
    · rw [kin_app (by omega)]
      exact h0.kp
  · rw [h0.dp]
    by_cases hp0 : p < 0
    · rw [if_pos hp0, if_pos hp0]
    · rw [if_neg hp0, if_neg hp0, depN_app h0.rng (by omega)]
  · intro k hk1 hk2
    rcases Nat.lt_trichotomy k L.length with e | e | e
    · rw [par_app (by omega)]
      exact h0.bel k hk1 (by omega)
    · subst e; rw [hpar]; exact Int.le_refl _
    · have := h.bel k (by omega) hk2
      omega
  · have key : ∀ n, L.length + 1 ≤ n → n ≤ (L ++ [(2, nm, [], p)] ++ M).length → lastC (L ++ [(2, nm, [], p)] ++ M) p n = (L.length : Int) := by
      intro n
      induction n with
      | zero => intro h; omega
      | succ n ih =>
        intro h1 h2
        rw [lastC_step]
        by_cases e : n = L.length
        · subst e
          rw [if_pos ⟨hpar, by rw [hkin]; decide⟩]
        · have := h.bel n (by omega) (by omega)
          rw [if_neg (by omega), ih (by omega) (by omega)]
    refine .inr ?_
    rw [key _ hle (Nat.le_refl _), Int.toNat_natCast, hkin]
    decide
/-- an attribute of an element that has attributes alone -/
theorem fits_attr {nm v : List UInt8} {q : Nat} {d : Nat} (h : Nw root L (q : Int) d) (hk : kin L q = 2) (hl : lastC L (q : Int) L.length < 0) (hn : Pch.nameL nm = true) (hf : ∀ k, q + 1 ≤ k → k < L.length → nam L k ≠ nm) : fitsK (L ++ [(3, nm, v, (q : Int))]) L.length = true := by
  have hq := h.hi
  unfold fitsK
  rw [kin_new, nam_new, par_new]
  have he : elemB (L ++ [(3, nm, v, (q : Int))]) (q : Int) = true := by
    unfold elemB
    rw [Int.toNat_natCast, kin_app (by omega), hk]
    simp
  simp only [he, hn]
  rw [lastC_app _ (Nat.le_refl _), decide_eq_true hl, Int.toNat_natCast, freeB_app _ (Nat.le_refl _), (freeB_iff L nm (q + 1) L.length).2 hf]
  rfl
theorem last_attr {nm v : List UInt8} {q : Int} (hl : lastC L q L.length < 0) : lastC (L ++ [(3, nm, v, q)]) q (L ++ [(3, nm, v, q)]).length < 0 := by
  have e : (L ++ [(3, nm, v, q)]).length = L.length + 1 := by simp
  rw [e, lastC_step, par_new, kin_new, if_neg (by simp), lastC_app _ (Nat.le_refl _)]
  exact hl
end
/-! ### a whole row -/
theorem allB_of {L : List Nd} {root : Bool} (hg : ∀ k, k < L.length → goodT L root k = true) (hv : ∀ k, k < L.length → (val L k).length ≤ 65536) : ∀ n, n ≤ L.length → allB L root n = true
  | 0, _ => rfl
  | n + 1, hn => by
    have h := hg n (by omega)
    unfold goodT at h
    rw [Bool.and_eq_true] at h
    unfold allB
    rw [allB_of hg hv n (by omega), Bool.true_and]
    unfold good
    rw [h.1, Bool.true_and]
    have h2 := h.2
    split at h2
    · rename_i e
      rw [if_pos e]
      exact h2
    · rename_i e
      rw [if_neg e]
      rw [Bool.and_eq_true] at h2
      unfold fitsB
      rw [h2.1, h2.2, decide_eq_true (hv n (by omega))]
      rfl
theorem deepest_of {L : List Nd} (hd : ∀ k, k < L.length → kin L k = 2 → depN L k ≤ 60) : ∀ n, n ≤ L.length → deepest L n ≤ 60
  | 0, _ => Nat.zero_le _
  | n + 1, hn => by
    have ih := deepest_of hd n (by omega)
    show (if kin L n = 2 then max (deepest L n) (depN L n) else deepest L n) ≤ 60
    split
    · rename_i h2
      have := hd n (by omega) h2
      omega
    · exact ih
theorem tops_of {L : List Nd} (h0 : par L 0 < 0) (h : ∀ k, k < L.length → par L k < 0 → k = 0) : ∀ n, 0 < n → n ≤ L.length → tops L n = 1
  | 0, h, _ => by omega
  | n + 1, _, hn => by
    show tops L n + (if par L n < 0 then 1 else 0) = 1
    by_cases e : n = 0
    · subst e
      rw [if_pos h0]
      rfl
    · rw [tops_of h0 h n (by omega) (by omega), if_neg (fun hc => e (h n (by omega) hc))]
theorem chk_frag {L : List Nd} {p : Int} {d : Nat} (h : Nw false L p d) (hv : ∀ k, k < L.length → (val L k).length ≤ 65536) (hl : L.length ≤ 16384) : chk L false = 0 := by
  unfold chk
  rw [if_neg (by omega), allB_of h.gd hv _ (Nat.le_refl _), if_neg (by simp), if_neg (by simp), if_neg (by have := deepest_of h.dd _ (Nat.le_refl L.length); omega)]
theorem chk_doc {L : List Nd} {p : Int} {d : Nat} (h : Nw true L p d) (hv : ∀ k, k < L.length → (val L k).length ≤ 65536) (hl : L.length ≤ 16384) (h0 : 0 < L.length) (he : elems L L.length = 1) : chk L true = 0 := by
  have hp0 := h.rng 0 h0
  unfold chk
  rw [if_neg (by omega), allB_of h.gd hv _ (Nat.le_refl _), if_neg (by simp), if_neg (by
    rintro ⟨_, hc | hc⟩
    · exact hc (tops_of (by omega) (h.rp rfl).2 _ h0 (Nat.le_refl _))
    · exact hc he), if_neg (by have := deepest_of h.dd _ (Nat.le_refl L.length); omega)]
end Go.Proofs.YtemfmidhekdekaaGreatDoor.Ptr
namespace Go.Proofs.YtemfmidhekdekaaGreatDoor.Ppa
open Go Go.Lib Go.Proofs.YtemfmidhekdekaaGreatDoor.Ptr Go.Proofs.YtemfmidhekdekaaGreatDoor.Wps

/-- how a state stands under p, so many elements deep -/
structure Cx (root : Bool) (s : St) (p : Int) (d : Nat) : Prop where
  nw : Nw root s.nodes p d
  tx : Pch.textsL s.text = true
  nt : NT s.nodes p
  un : s.text = [] ∨ p < 0 ∨ kin s.nodes p.toNat = 2
  ne : root = true → 0 < s.nodes.length
def Ext (s s' : St) : Prop := ∃ M, s'.nodes = s.nodes ++ M
theorem Ext.refl (s : St) : Ext s s := ⟨[], by simp⟩
theorem Ext.trans {a b c : St} (h : Ext a b) (h2 : Ext b c) : Ext a c := by
  obtain ⟨M, h⟩ := h
  obtain ⟨K, h2⟩ := h2
  exact ⟨M ++ K, by rw [h2, h, List.append_assoc]⟩
section
variable {root : Bool} {s s' : St} {p : Int} {d N : Nat}
theorem flush_cx (h : Cx root s p d) : Nw root (flush s p).nodes p d ∧ (flush s p).text = [] ∧ ∃ M, (flush s p).nodes = s.nodes ++ M ∧ (s.text = [] → M = []) := by
  unfold flush
  split
  · rename_i e
    exact ⟨h.nw, e, [], by simp, fun _ => rfl⟩
  · rename_i e
    have hu : p < 0 ∨ kin s.nodes p.toNat = 2 := by rcases h.un with h1 | h1; exact absurd h1 e; exact h1
    exact ⟨(h.nw.grow (x := (4, [], s.text, p)) rfl h.tx (fits_text h.nw hu h.nt e) (fun h2 => by cases h2) h.ne).1, rfl, _, rfl, fun h2 => absurd h2 e⟩
theorem flush_same (s : St) (p : Int) : (flush s p).twice = s.twice ∧ (flush s p).deep = s.deep := by
  unfold flush
  split <;> exact ⟨rfl, rfl⟩
theorem add_eq {x : Nd} (h3 : x.1 ≠ 3) (s : St) : (add s x).nodes = (flush s x.2.2.2).nodes ++ [x] ∧ (add s x).text = (flush s x.2.2.2).text ∧ (add s x).twice = s.twice ∧ (add s x).deep = s.deep := by
  have hf := flush_same s x.2.2.2
  unfold add
  rw [if_neg h3]
  exact ⟨rfl, rfl, hf.1, hf.2⟩
/-- a node more, no attribute -/
theorem add_cx {x : Nd} (h : Cx root s p d) (hx : okN x) (hp : x.2.2.2 = p) (ht : Pch.textsL x.2.2.1 = true) (hd : x.1 = 2 → d + 1 ≤ 60) :
    Cx root (add s x) p d ∧ Ext s (add s x) ∧ (add s x).text = [] ∧ ∃ F, (∃ M, F = s.nodes ++ M ∧ (s.text = [] → M = [])) ∧ (add s x).nodes = F ++ [x] ∧ depN (F ++ [x]) F.length = (if x.1 = 2 then 1 else 0) + d := by
  have h34 : x.1 ≠ 3 ∧ x.1 ≠ 4 := by rcases hx with h1 | h1 | h1 <;> (rw [h1.1]; decide)
  obtain ⟨a1, a2, _, _⟩ := add_eq h34.1 s
  rw [hp] at a1 a2
  obtain ⟨b1, b2, M, b3, b4⟩ := flush_cx h
  have hne : root = true → 0 < (flush s p).nodes.length := fun hr => by rw [b3, List.length_append]; have := h.ne hr; omega
  have hg := b1.grow hp ht (fits_ok b1 hx hp) hd hne
  refine ⟨⟨?_, ?_, ?_, .inl (a2.trans b2), fun _ => ?_⟩, ?_, a2.trans b2, ⟨_, ⟨M, b3, b4⟩, a1, hg.2⟩⟩
  · rw [a1]; exact hg.1
  · rw [a2, b2]; rfl
  · rw [a1]; exact nt_new hp h34.1 h34.2
  · rw [a1, List.length_append]; simp
  · exact ⟨M ++ [x], by rw [a1, b3, List.append_assoc]⟩
theorem said_ok {v : Bs} (h : Pch.textsL v = true) : Pch.textsL (said v) = true := said_texts v.length v (Nat.le_refl _) h
theorem blanks_len (r : Bs) : (blanksL r).length ≤ r.length := (blanksL_suf r).length_le
theorem instr_cx {r r' : Bs} (h : instrM p r s = .ok (r', s')) (ht : Pch.textsL r = true) : s'.twice = s.twice ∧ s'.deep = s.deep ∧ (Cx root s p d → Cx root s' p d ∧ Ext s s' ∧ s'.text = []) := by
  unfold instrM at h
  cases hn : nameM r with
  | error r1 => rw [hn] at h; cases h
  | ok q =>
    obtain ⟨nm, r1⟩ := q
    rw [hn] at h
    dsimp only at h
    have hnm := nameM_name hn ht
    have ht1 := (nameM_ok hn).2.2 ht
    split at h
    · cases h
    · rename_i hx
      have hx : isXml nm = false := by simpa using hx
      split at h
      · cases h
      · rename_i x u
        split at h
        · cases hu : untilR [63, 62] (blanksL (x :: u)) with
          | error r2 => rw [hu] at h; cases h
          | ok q2 =>
            obtain ⟨v, r2⟩ := q2
            rw [hu] at h
            injection h with h
            injection h with h1 h2
            subst h2
            obtain ⟨_, _, c3, c4⟩ := add_eq (x := (6, nm, said v, p)) (by simp) s
            refine ⟨c3, c4, fun hc => ?_⟩
            have hv := until_texts hu (by decide) (blanksL_texts ht1)
            have h2 := (has2_snoc _ (until_no2 hu)).1
            obtain ⟨d1, d2, d3, _⟩ := add_cx (x := (6, nm, said v, p)) hc (.inr (.inr ⟨rfl, hnm, hx, said_has2 (by decide) (by decide) _ _ (Nat.le_refl _) h2, said_blank hu⟩)) rfl (said_ok hv) (fun e => by cases e)
            exact ⟨d1, d2, d3⟩
        · split at h
          · cases hm : mustL [63, 62] (x :: u) with
            | error r2 => rw [hm] at h; cases h
            | ok r2 =>
              rw [hm] at h
              injection h with h
              injection h with h1 h2
              subst h2
              obtain ⟨_, _, c3, c4⟩ := add_eq (x := (6, nm, [], p)) (by simp) s
              refine ⟨c3, c4, fun hc => ?_⟩
              obtain ⟨d1, d2, d3, _⟩ := add_cx (x := (6, nm, [], p)) hc (.inr (.inr ⟨rfl, hnm, hx, rfl, rfl⟩)) rfl rfl (fun e => by cases e)
              exact ⟨d1, d2, d3⟩
          · cases h
theorem comm_cx {r r' : Bs} (h : commM p r s = .ok (r', s')) (ht : Pch.textsL r = true) : s'.twice = s.twice ∧ s'.deep = s.deep ∧ (Cx root s p d → Cx root s' p d ∧ Ext s s' ∧ s'.text = []) := by
  unfold commM at h
  cases hm : mustL [45] r with
  | error r1 => rw [hm] at h; cases h
  | ok r1 =>
    rw [hm] at h
    dsimp only at h
    have ht1 := mustL_texts _ _ _ (by decide) ht hm
    cases hu : untilR [45, 45] r1 with
    | error r2 => rw [hu] at h; cases h
    | ok q2 =>
      obtain ⟨v, r2⟩ := q2
      rw [hu] at h
      dsimp only at h
      cases hm2 : mustL [62] r2 with
      | error r3 => rw [hm2] at h; cases h
      | ok r3 =>
        rw [hm2] at h
        injection h with h
        injection h with h1 h2
        subst h2
        obtain ⟨_, _, c3, c4⟩ := add_eq (x := (5, [], said v, p)) (by simp) s
        refine ⟨c3, c4, fun hc => ?_⟩
        have hv := until_texts hu (by decide) ht1
        have h2 := said_has2 (a := 45) (b := 45) (by decide) (by decide) _ _ (Nat.le_refl _) (until_no2 hu)
        rw [said_snoc (by decide) (by decide) _ _ (Nat.le_refl _)] at h2
        obtain ⟨e1, e2⟩ := has2_snoc _ h2
        obtain ⟨d1, d2, d3, _⟩ := add_cx (x := (5, [], said v, p)) hc (.inr (.inl ⟨rfl, rfl, e1, fun e => e2 ⟨e, rfl⟩⟩)) rfl (said_ok hv) (fun e => by cases e)
        exact ⟨d1, d2, d3⟩
/-- an element that has attributes alone -/
structure At (root : Bool) (s : St) (q d : Nat) : Prop where
  nw : Nw root s.nodes (q : Int) d
  el : kin s.nodes q = 2
  la : lastC s.nodes (q : Int) s.nodes.length < 0
  tx : s.text = []
  ne : 0 < s.nodes.length
theorem attr_at {q : Nat} {r r' : Bs} (h : attrM N q r s = .ok (r', s')) (ht : Pch.textsL r = true) (hr : r.length ≤ N) :
    (0 ≤ s.twice → 0 ≤ s'.twice) ∧ s'.deep = s.deep ∧ (s'.twice < 0 → At root s q d → At root s' q d ∧ Ext s s') := by
  unfold attrM at h
  cases hn : nameM r with
  | error r1 => rw [hn] at h; cases h
  | ok q1 =>
    obtain ⟨nm, r1⟩ := q1
    rw [hn] at h
    dsimp only at h
    have hnm := nameM_name hn ht
    have ht1 := (nameM_ok hn).2.2 ht
    cases hm : mustL [61] (blanksL r1) with
    | error r2 => rw [hm] at h; cases h
    | ok r2 =>
      rw [hm] at h
      dsimp only at h
      have ht2 := mustL_texts _ _ _ (by decide) (blanksL_texts ht1) hm
      cases hv : valM (blanksL r2) with
      | error r3 => rw [hv] at h; cases h
      | ok q3 =>
        obtain ⟨v, r3⟩ := q3
        rw [hv] at h
        injection h with h
        injection h with h1 h2
        have hval := valM_val hv (blanksL_texts ht2)
        subst h2
        unfold add
        rw [if_pos rfl]
        dsimp only
        refine ⟨fun h0 => ?_, rfl, fun h0 ha => ?_⟩
        · split
          · omega
          · exact h0
        · split at h0
          · omega
          · rename_i hc
            have hany : ((s.nodes.drop (q + 1)).any fun o => o.2.1 == nm) = false := by
              cases hb : (s.nodes.drop (q + 1)).any fun o => o.2.1 == nm with
              | false => rfl
              | true => exact absurd ⟨h0, hb⟩ hc
            have hf : ∀ k, q + 1 ≤ k → k < s.nodes.length → nam s.nodes k ≠ nm := by
              intro k h1 h2 e
              rw [List.any_eq_false] at hany
              refine hany s.nodes[k] ?_ ?_
              · rw [List.mem_iff_getElem?]
                exact ⟨k - (q + 1), by rw [List.getElem?_drop, show q + 1 + (k - (q + 1)) = k by omega]; exact List.getElem?_eq_getElem h2⟩
              · unfold nam at e
                rw [List.getD_eq_getElem?_getD, List.getElem?_eq_getElem h2] at e
                rw [beq_iff_eq]
                exact e
            have hq := ha.nw.hi
            have hg := ha.nw.grow (x := (3, nm, v, (q : Int))) rfl hval (fits_attr ha.nw ha.el ha.la hnm hf) (fun e => by cases e) (fun _ => ha.ne)
            refine ⟨⟨hg.1, ?_, last_attr ha.la, ha.tx, by simp⟩, ⟨_, rfl⟩⟩
            show kin (s.nodes ++ _) q = 2
            rw [kin_app (by omega)]
            exact ha.el
end
theorem attrs_at {root : Bool} {N q d : Nat} : ∀ (f : Nat) (r : Bs) (s : St) (r' : Bs) (s' : St), attrsF N q f r s = some (.ok (r', s')) → Pch.textsL r = true → r.length ≤ N →
    (0 ≤ s.twice → 0 ≤ s'.twice) ∧ s'.deep = s.deep ∧ (s'.twice < 0 → At root s q d → At root s' q d ∧ Ext s s')
  | 0, r, s, r', s', h, _, _ => by cases h
  | f + 1, [], s, r', s', h, _, _ => by
    rw [attrsF] at h
    injection h with h
    injection h with h
    injection h with h1 h2
    subst h2
    exact ⟨id, rfl, fun _ ha => ⟨ha, Ext.refl _⟩⟩
  | f + 1, x :: t, s, r', s', h, ht, hr => by
    rw [attrsF] at h
    have hend : ∀ u : Bs, (some (Except.ok (u, s)) : Option (Except Bs (Bs × St))) = some (Except.ok (r', s')) → (0 ≤ s.twice → 0 ≤ s'.twice) ∧ s'.deep = s.deep ∧ (s'.twice < 0 → At root s q d → At root s' q d ∧ Ext s s') := by
      intro u h
      injection h with h
      injection h with h
      injection h with h1 h2
      subst h2
      exact ⟨id, rfl, fun _ ha => ⟨ha, Ext.refl _⟩⟩
    split at h
    · have hb := blanks_len (x :: t)
      have htb := blanksL_texts ht
      generalize blanksL (x :: t) = z at h hb htb
      split at h
      · exact hend _ h
      · exact hend _ h
      · cases ha : attrM N q z s with
        | error r2 => rw [ha] at h; cases h
        | ok q2 =>
          obtain ⟨r2, s2⟩ := q2
          rw [ha] at h
          obtain ⟨a1, a2, a3⟩ := attr_at (root := root) (d := d) ha htb (by omega)
          obtain ⟨b1, _, b3, _, _⟩ := attrM_ok ha
          have := b1.length_le
          obtain ⟨c1, c2, c3⟩ := attrs_at (root := root) (d := d) f r2 s2 r' s' h (b3 htb) (by omega)
          refine ⟨fun h0 => c1 (a1 h0), c2.trans a2, fun h0 hA => ?_⟩
          have h1 : s2.twice < 0 := by
            rcases Int.lt_or_le s2.twice 0 with e | e
            · exact e
            · have := c1 e; omega
          obtain ⟨d1, d2⟩ := a3 h1 hA
          obtain ⟨e1, e2⟩ := c3 h0 d1
          exact ⟨e1, d2.trans e2⟩
    · exact hend _ h
/-- what is claimed of a content, of markup and of an element -/
structure Kr (N : Nat) (root : Bool) (f : Nat) : Prop where
  cont : ∀ (p : Int) (d run : Nat) (r : Bs) (s : St) (r' : Bs) (s' : St), contF N f p d run r s = some (.ok (r', s')) → Pch.textsL r = true → r.length ≤ N →
    (0 ≤ s.twice → 0 ≤ s'.twice) ∧ (0 ≤ s.deep → 0 ≤ s'.deep) ∧ (s'.twice < 0 → s'.deep < 0 → Cx root s p d → (p < 0 ∨ kin s.nodes p.toNat = 2) → Nw root s'.nodes p d ∧ Ext s s' ∧ s'.text = [])
  mark : ∀ (p : Int) (d : Nat) (r : Bs) (s : St) (r' : Bs) (s' : St), markF N f p d r s = some (.ok (r', s')) → Pch.textsL r = true → r.length + 1 ≤ N →
    (0 ≤ s.twice → 0 ≤ s'.twice) ∧ (0 ≤ s.deep → 0 ≤ s'.deep) ∧ (s'.twice < 0 → s'.deep < 0 → Cx root s p d → (p < 0 ∨ kin s.nodes p.toNat = 2) → Cx root s' p d ∧ Ext s s')
  elem : ∀ (p : Int) (d : Nat) (r : Bs) (s : St) (r' : Bs) (s' : St), elemF N f p (d + 1) r s = some (.ok (r', s')) → Pch.textsL r = true → r.length + 1 ≤ N →
    (0 ≤ s.twice → 0 ≤ s'.twice) ∧ (0 ≤ s.deep → 0 ≤ s'.deep) ∧ (s'.twice < 0 → s'.deep < 0 → Cx root s p d →
      Cx root s' p d ∧ s'.text = [] ∧ ∃ F nm M, (∃ K, F = s.nodes ++ K ∧ (s.text = [] → K = [])) ∧ s'.nodes = F ++ [(2, nm, [], p)] ++ M ∧ ∀ k : Nat, F.length < k → k < s'.nodes.length → (F.length : Int) ≤ par s'.nodes k)
theorem neg_of {a b : Int} (h : 0 ≤ a → 0 ≤ b) (hb : b < 0) : a < 0 := by
  rcases Int.lt_or_le a 0 with e | e
  · exact e
  · have := h e; omega
theorem kin_ext {s s' : St} {p : Int} {root : Bool} {d : Nat} (h : Nw root s.nodes p d) (he : Ext s s') (hu : p < 0 ∨ kin s.nodes p.toNat = 2) : p < 0 ∨ kin s'.nodes p.toNat = 2 := by
  rcases hu with h1 | h1
  · exact .inl h1
  · rcases Int.lt_or_le p 0 with e | e
    · exact .inl e
    · obtain ⟨M, he⟩ := he
      have := h.hi
      rw [he, kin_app (by omega)]
      exact .inr h1
theorem kr_cont {N : Nat} {root : Bool} {f : Nat} (ih : ∀ g, g < f → Kr N root g) (p : Int) (d run : Nat) (r : Bs) (s : St) (r' : Bs) (s' : St) (h : contF N f p d run r s = some (.ok (r', s'))) (ht : Pch.textsL r = true) (hr : r.length ≤ N) :
    (0 ≤ s.twice → 0 ≤ s'.twice) ∧ (0 ≤ s.deep → 0 ≤ s'.deep) ∧ (s'.twice < 0 → s'.deep < 0 → Cx root s p d → (p < 0 ∨ kin s.nodes p.toNat = 2) → Nw root s'.nodes p d ∧ Ext s s' ∧ s'.text = []) := by
  have hend : s' = flush s p → (0 ≤ s.twice → 0 ≤ s'.twice) ∧ (0 ≤ s.deep → 0 ≤ s'.deep) ∧ (s'.twice < 0 → s'.deep < 0 → Cx root s p d → (p < 0 ∨ kin s.nodes p.toNat = 2) → Nw root s'.nodes p d ∧ Ext s s' ∧ s'.text = []) := by
    intro e
    subst e
    have hf := flush_same s p
    rw [hf.1, hf.2]
    refine ⟨id, id, fun _ _ hc _ => ?_⟩
    obtain ⟨a1, a2, M, a3, _⟩ := flush_cx hc
    exact ⟨a1, ⟨M, a3⟩, a2⟩
  cases f with
  | zero => unfold contF at h; cases h
  | succ f =>
    have more : ∀ (g : Nat) (run1 : Nat) (r1 : Bs) (u : Bs), g < f + 1 → contF N g p d run1 r1 { s with text := s.text ++ u } = some (.ok (r', s')) → Pch.textsL r1 = true → r1.length ≤ N → Pch.textsL u = true →
        (0 ≤ s.twice → 0 ≤ s'.twice) ∧ (0 ≤ s.deep → 0 ≤ s'.deep) ∧ (s'.twice < 0 → s'.deep < 0 → Cx root s p d → (p < 0 ∨ kin s.nodes p.toNat = 2) → Nw root s'.nodes p d ∧ Ext s s' ∧ s'.text = []) := by
      intro g run1 r1 u hg h1 h2 h3 h4
      obtain ⟨a1, a2, a3⟩ := (ih g hg).cont p d run1 r1 _ r' s' h1 h2 h3
      refine ⟨a1, a2, fun b1 b2 hc hu => ?_⟩
      exact a3 b1 b2 ⟨hc.nw, by show Pch.textsL (s.text ++ u) = true; rw [Pch.texts_left _ _ hc.tx, h4], hc.nt, .inr hu, hc.ne⟩ hu
    cases r with
    | nil =>
      by_cases hp : p < 0
      · rw [cont_end hp] at h
        injection h with h
        injection h with h
        injection h with h1 h2
        exact hend h2.symm
      · rw [cont_lack hp] at h
        cases h
    | cons x t =>
      have hlen : t.length + 1 ≤ N := by simpa using hr
      by_cases h62 : x = 62 ∧ 2 ≤ run
      · obtain ⟨rfl, h2⟩ := h62
        rw [cont_bad h2] at h
        cases h
      · by_cases h60 : x = 60
        · subst h60
          have htt := texts_low (by decide) ht
          by_cases hc : 0 ≤ p ∧ t.head? = some 47
          · obtain ⟨u, rfl⟩ := head_cons hc.2
            rw [cont_close hc.1] at h
            injection h with h
            injection h with h
            injection h with h1 h2
            exact hend h2.symm
          · rw [cont_mark hc] at h
            cases hm : markF N f p d t s with
            | none => rw [hm] at h; cases h
            | some o =>
              rw [hm] at h
              cases o with
              | error r1 => cases h
              | ok q =>
                obtain ⟨r1, s1⟩ := q
                dsimp only at h
                obtain ⟨a1, a2, a3⟩ := (ih f (by omega)).mark p d t s r1 s1 hm htt hlen
                obtain ⟨k1, _, k3⟩ := (kc_all N f).mark p d t s r1 s1 hm
                have := k1.length_le
                obtain ⟨b1, b2, b3⟩ := (ih f (by omega)).cont p d 0 r1 s1 r' s' h (k3 htt) (by omega)
                refine ⟨fun z => b1 (a1 z), fun z => b2 (a2 z), fun c1 c2 hc hu => ?_⟩
                obtain ⟨d1, d2⟩ := a3 (neg_of b1 c1) (neg_of b2 c2) hc hu
                obtain ⟨e1, e2, e3⟩ := b3 c1 c2 d1 (kin_ext hc.nw d2 hu)
                exact ⟨e1, d2.trans e2, e3⟩
        · by_cases h38 : x = 38
          · subst h38
            rw [cont_ref] at h
            cases hf : refM t with
            | error r1 => rw [hf] at h; cases h
            | ok q =>
              obtain ⟨n, r1⟩ := q
              rw [hf] at h
              have := (refM_suf hf).length_le
              exact more f 0 r1 _ (by omega) h (Ppa.refM_texts hf (texts_low (by decide) ht)) (by omega) (encode_texts (refM_char hf).1)
          · by_cases h13 : x = 13
            · subst h13
              rw [cont_cr] at h
              have := (nlL_suf t).length_le
              exact more f 0 _ _ (by omega) h (nlL_texts (texts_low (by decide) ht)) (by omega) (by decide)
            · obtain ⟨g, hg, hc⟩ := cont_copy ht h62 h60 h38 h13 h
              have hne : (x :: t) ≠ [] := by simp
              obtain ⟨_, a2, a3⟩ := texts_step hne ht
              rw [peek_of hne] at hc
              exact more g _ _ _ hg hc a3 (by unfold skip; rw [List.length_drop]; omega) (encode_texts a2)
theorem kr_mark {N : Nat} {root : Bool} {f : Nat} (ih : ∀ g, g < f → Kr N root g) (p : Int) (d : Nat) (r : Bs) (s : St) (r' : Bs) (s' : St) (h : markF N f p d r s = some (.ok (r', s'))) (ht : Pch.textsL r = true) (hr : r.length + 1 ≤ N) :
    (0 ≤ s.twice → 0 ≤ s'.twice) ∧ (0 ≤ s.deep → 0 ≤ s'.deep) ∧ (s'.twice < 0 → s'.deep < 0 → Cx root s p d → (p < 0 ∨ kin s.nodes p.toNat = 2) → Cx root s' p d ∧ Ext s s') := by
  cases f with
  | zero => unfold markF at h; cases h
  | succ f =>
    by_cases h63 : r.head? = some 63
    · obtain ⟨t, rfl⟩ := head_cons h63
      rw [mark_instr] at h
      injection h with h
      obtain ⟨a1, a2, a3⟩ := instr_cx (root := root) (d := d) h (texts_low (by decide) ht)
      rw [a1, a2]
      exact ⟨id, id, fun _ _ hc _ => ⟨(a3 hc).1, (a3 hc).2.1⟩⟩
    · by_cases h33 : r.head? = some 33
      · obtain ⟨t, rfl⟩ := head_cons h33
        have ht1 := texts_low (by decide) ht
        by_cases h45 : t.head? = some 45
        · obtain ⟨u, rfl⟩ := head_cons h45
          rw [mark_comm] at h
          injection h with h
          obtain ⟨a1, a2, a3⟩ := comm_cx (root := root) (d := d) h (texts_low (by decide) ht1)
          rw [a1, a2]
          exact ⟨id, id, fun _ _ hc _ => ⟨(a3 hc).1, (a3 hc).2.1⟩⟩
        · rw [mark_cdata h45] at h
          injection h with h
          unfold cdataM at h
          cases hm : mustL [91, 67, 68, 65, 84, 65, 91] t with
          | error r1 => rw [hm] at h; cases h
          | ok r1 =>
            rw [hm] at h
            dsimp only at h
            cases hu : untilR [93, 93, 62] r1 with
            | error r2 => rw [hu] at h; cases h
            | ok q2 =>
              obtain ⟨v, r2⟩ := q2
              rw [hu] at h
              injection h with h
              injection h with h1 h2
              subst h2
              have hv := until_texts hu (by decide) (mustL_texts _ _ _ (by decide) ht1 hm)
              exact ⟨id, id, fun _ _ hc hu => ⟨⟨hc.nw, by show Pch.textsL (s.text ++ said v) = true; rw [Pch.texts_left _ _ hc.tx, said_ok hv], hc.nt, .inr hu, hc.ne⟩, [], by simp⟩⟩
      · rw [mark_elem h63 h33] at h
        obtain ⟨a1, a2, a3⟩ := (ih f (by omega)).elem p d r s r' s' h ht hr
        refine ⟨a1, a2, fun b1 b2 hc _ => ?_⟩
        obtain ⟨c1, _, F, nm, M, ⟨K, c3, _⟩, c4, _⟩ := a3 b1 b2 hc
        exact ⟨c1, K ++ [(2, nm, [], p)] ++ M, by rw [c4, c3]; simp⟩
theorem kr_elem {N : Nat} {root : Bool} {f : Nat} (ih : ∀ g, g < f → Kr N root g) (p : Int) (d : Nat) (r : Bs) (s : St) (r' : Bs) (s' : St) (h : elemF N f p (d + 1) r s = some (.ok (r', s'))) (ht : Pch.textsL r = true) (hr : r.length + 1 ≤ N) :
    (0 ≤ s.twice → 0 ≤ s'.twice) ∧ (0 ≤ s.deep → 0 ≤ s'.deep) ∧ (s'.twice < 0 → s'.deep < 0 → Cx root s p d →
      Cx root s' p d ∧ s'.text = [] ∧ ∃ F nm M, (∃ K, F = s.nodes ++ K ∧ (s.text = [] → K = [])) ∧ s'.nodes = F ++ [(2, nm, [], p)] ++ M ∧ ∀ k : Nat, F.length < k → k < s'.nodes.length → (F.length : Int) ≤ par s'.nodes k) := by
  cases f with
  | zero => unfold elemF at h; cases h
  | succ f =>
    rw [elemF_eq] at h
    cases hn : nameM r with
    | error r1 => rw [hn] at h; cases h
    | ok q =>
      obtain ⟨nm, r1⟩ := q
      rw [hn] at h
      dsimp only at h
      have hnm := nameM_name hn ht
      have ht1 := (nameM_ok hn).2.2 ht
      have hl1 := (nameM_suf hn).length_le
      obtain ⟨s0, hs0⟩ : ∃ s0 : St, s0 = { s with deep := if 60 < d + 1 ∧ s.deep < 0 then (N : Int) - r.length - 1 else s.deep } := ⟨_, rfl⟩
      have hS : elemS N p (d + 1) r nm s = add s0 (2, nm, [], p) := by rw [hs0]; rfl
      rw [hS] at h
      have hdp : (0 ≤ s.deep → 0 ≤ s0.deep) ∧ (s0.deep < 0 → d + 1 ≤ 60) := by
        rw [hs0]
        dsimp only
        constructor
        · intro h0
          rw [if_neg (by omega)]
          exact h0
        · intro h0
          split at h0
          · omega
          · omega
      have htw : s0.twice = s.twice := by rw [hs0]
      obtain ⟨e1, e2, e3, e4⟩ := add_eq (x := (2, nm, [], p)) (by simp) s0
      have hcx : Cx root s p d → Cx root s0 p d := fun hc => by rw [hs0]; exact ⟨hc.nw, hc.tx, hc.nt, hc.un, hc.ne⟩
      have hadd : s0.deep < 0 → Cx root s p d → ∃ F, (∃ K, F = s.nodes ++ K ∧ (s.text = [] → K = [])) ∧ (add s0 (2, nm, [], p)).nodes = F ++ [(2, nm, [], p)] ∧ Nw root (F ++ [(2, nm, [], p)]) p d ∧ At root (add s0 (2, nm, [], p)) F.length (d + 1) := by
        intro h0 hc
        obtain ⟨b1, _, b3, F, ⟨K, b4, b7⟩, b5, b6⟩ := add_cx (x := (2, nm, [], p)) (hcx hc) (.inl ⟨rfl, hnm, rfl⟩) rfl rfl (fun _ => hdp.2 h0)
        have hw := b1.nw
        rw [b5] at hw
        refine ⟨F, ⟨K, by rw [b4, hs0], fun e => b7 (by rw [hs0]; exact e)⟩, b5, hw, ?_⟩
        have hin := Nw.into hw b6
        refine ⟨by rw [b5]; exact hin, by rw [b5, kin_new], by rw [b5, nt_into hw]; decide, b3, by rw [b5]; simp⟩
      have hpr : (add s0 (2, nm, [], p)).nodes.length.pred = (flush s0 p).nodes.length := by rw [e1]; simp
      rw [hpr] at h
      have hFl : ∀ F : List Nd, (add s0 (2, nm, [], p)).nodes = F ++ [(2, nm, [], p)] → (flush s0 p).nodes.length = F.length := fun F hF => by
        rw [← hpr, hF]; simp
      generalize hQ : (flush s0 p).nodes.length = Q at h hFl
      generalize hS1 : add s0 (2, nm, [], p) = S1 at h hadd e3 e4 hFl
      split at h
      · cases h
      · cases h
      · rename_i r2 s2 hat
        have bx := attrsF_ok _ _ _ _ _ hat
        have b1 := bx.1
        have b3 := bx.2.2.1
        clear bx
        have hl2 := b1.length_le
        obtain ⟨a1, a2, a3⟩ := attrs_at (root := root) (d := d + 1) _ _ _ _ _ hat ht1 (by omega)
        have hm1 : 0 ≤ s.twice → 0 ≤ s2.twice := fun z => a1 (by rw [e3, htw]; exact z)
        have hm2 : 0 ≤ s.deep → 0 ≤ s2.deep := fun z => by rw [a2, e4]; exact hdp.1 z
        have hs0d : s2.deep < 0 → s0.deep < 0 := fun z => by rw [a2, e4] at z; exact z
        split at h
        · rename_i t
          injection h with h
          cases hm : mustL [62] t with
          | error r3 => rw [hm] at h; cases h
          | ok r3 =>
            rw [hm] at h
            injection h with h
            injection h with h1 h2
            subst h2
            refine ⟨hm1, hm2, fun c1 c2 hc => ?_⟩
            obtain ⟨F, hK, f2, f3, f4⟩ := hadd (hs0d c2) hc
            have hq := hFl F f2
            subst hq
            obtain ⟨g1, M, g2⟩ := a3 c1 f4
            rw [f2] at g2
            have hw := g1.nw
            rw [g2] at hw
            obtain ⟨i1, i2⟩ := Nw.out f3 hw
            refine ⟨⟨by rw [g2]; exact i1, by rw [g1.tx]; rfl, by rw [g2]; exact i2, .inl g1.tx, fun _ => g1.ne⟩, g1.tx, F, nm, M, hK, g2, fun k k1 k2 => ?_⟩
            rw [g2] at k2 ⊢
            exact hw.bel k (by omega) k2
        · cases hm : mustL [62] r2 with
          | error r3 => rw [hm] at h; cases h
          | ok r3 =>
            rw [hm] at h
            dsimp only at h
            have hl3 := (mustL_suf hm).length_le
            have ht3 := mustL_texts _ _ _ (by decide) (b3 ht1) hm
            split at h
            · cases h
            · cases h
            · rename_i r4 s4 hco
              obtain ⟨j1, j2, j3⟩ := (ih f (by omega)).cont _ _ _ _ _ _ _ hco ht3 (by omega)
              injection h with h
              cases hcl : closeM nm r4 with
              | error r6 => rw [hcl] at h; cases h
              | ok r6 =>
                rw [hcl] at h
                injection h with h
                injection h with h1 h2
                subst h2
                refine ⟨fun z => j1 (hm1 z), fun z => j2 (hm2 z), fun c1 c2 hc => ?_⟩
                have c3 := neg_of j1 c1
                have c4 := neg_of j2 c2
                obtain ⟨F, hK, f2, f3, f4⟩ := hadd (hs0d c4) hc
                have hq := hFl F f2
                subst hq
                obtain ⟨g1, M, g2⟩ := a3 c3 f4
                have hNT : NT s2.nodes (F.length : Int) := .inl g1.la
                obtain ⟨l1, ⟨M2, l2⟩, l3⟩ := j3 c1 c2 ⟨g1.nw, by rw [g1.tx]; rfl, hNT, .inl g1.tx, fun _ => g1.ne⟩ (.inr (by rw [Int.toNat_natCast]; exact g1.el))
                rw [f2] at g2
                have l4 : s4.nodes = F ++ [(2, nm, [], p)] ++ (M ++ M2) := by rw [l2, g2, List.append_assoc]
                have hw := l1
                rw [l4] at hw
                obtain ⟨i1, i2⟩ := Nw.out f3 hw
                refine ⟨⟨by rw [l4]; exact i1, by rw [l3]; rfl, by rw [l4]; exact i2, .inl l3, fun _ => by rw [l4]; simp; omega⟩, l3, F, nm, M ++ M2, hK, l4, fun k k1 k2 => ?_⟩
                rw [l4] at k2 ⊢
                exact hw.bel k (by omega) k2
theorem kr_all (N : Nat) (root : Bool) (f : Nat) : Kr N root f := by
  induction f using Nat.strongRecOn with
  | ind f ih => exact ⟨kr_cont ih, kr_mark ih, kr_elem ih⟩
end Go.Proofs.YtemfmidhekdekaaGreatDoor.Ppa
namespace Go.Proofs.YtemfmidhekdekaaGreatDoor.Ppa
open Go Go.Lib Go.Proofs.YtemfmidhekdekaaGreatDoor.Ptr Go.Proofs.YtemfmidhekdekaaGreatDoor.Wps

/-! ### a document is right -/
theorem elems_snoc (L : List Nd) (x : Nd) : elems (L ++ [x]) (L ++ [x]).length = elems L L.length + if x.1 = 2 ∧ x.2.2.2 = 0 then 1 else 0 := by
  have e : (L ++ [x]).length = L.length + 1 := by simp
  rw [e]
  show elems (L ++ [x]) L.length + (if kin (L ++ [x]) L.length = 2 ∧ par (L ++ [x]) L.length = 0 then 1 else 0) = _
  rw [elems_app _ (Nat.le_refl _), kin_new, Ptr.par_new]
theorem elems_tail {L M : List Nd} {nm : Bs} (h0 : 0 < L.length) (h : ∀ k : Nat, L.length < k → k < (L ++ [(2, nm, [], 0)] ++ M).length → (L.length : Int) ≤ par (L ++ [(2, nm, [], 0)] ++ M) k) : elems (L ++ [(2, nm, [], 0)] ++ M) (L ++ [(2, nm, [], 0)] ++ M).length = elems L L.length + 1 := by
  have hz : (L ++ [(2, nm, [], 0)]).length = L.length + 1 := by simp
  have key : ∀ n, L.length + 1 ≤ n → n ≤ (L ++ [(2, nm, [], 0)] ++ M).length → elems (L ++ [(2, nm, [], 0)] ++ M) n = elems L L.length + 1 := by
    intro n
    induction n with
    | zero => intro h; omega
    | succ n ih =>
      intro h1 h2
      by_cases e : n = L.length
      · subst e
        rw [elems_app _ (by omega), ← hz, elems_snoc]
        rw [if_pos ⟨rfl, rfl⟩]
      · show elems _ n + (if kin _ n = 2 ∧ par _ n = 0 then 1 else 0) = _
        have := h n (by omega) (by omega)
        rw [ih (by omega) (by omega), if_neg (by omega)]
  exact key _ (by rw [List.length_append, hz]; omega) (Nat.le_refl _)
theorem add_plain {x : Nd} {s : St} (h3 : x.1 ≠ 3) (ht : s.text = []) : (add s x).nodes = s.nodes ++ [x] := by
  have := (add_eq h3 s).1
  rw [this]
  unfold flush
  rw [if_pos ht]
theorem instr_add {p : Int} {r r' : Bs} {s s' : St} (h : instrM p r s = .ok (r', s')) : ∃ x : Nd, x.1 = 6 ∧ s' = add s x := by
  unfold instrM at h
  cases hn : nameM r with
  | error r1 => rw [hn] at h; cases h
  | ok q =>
    obtain ⟨nm, r1⟩ := q
    rw [hn] at h
    dsimp only at h
    split at h
    · cases h
    · split at h
      · cases h
      · split at h
        · split at h
          · injection h with h
            injection h with h1 h2
            exact ⟨_, rfl, h2.symm⟩
          · cases h
        · split at h
          · split at h
            · injection h with h
              injection h with h1 h2
              exact ⟨_, rfl, h2.symm⟩
            · cases h
          · cases h
theorem comm_add {p : Int} {r r' : Bs} {s s' : St} (h : commM p r s = .ok (r', s')) : ∃ x : Nd, x.1 = 5 ∧ s' = add s x := by
  unfold commM at h
  split at h
  · cases h
  · split at h
    · cases h
    · split at h
      · cases h
      · injection h with h
        injection h with h1 h2
        exact ⟨_, rfl, h2.symm⟩
theorem docF_right {N : Nat} : ∀ (f : Nat) (done : Bool) (r : Bs) (s s' : St), docF N f done r s = some (.ok s') → Pch.textsL r = true → r.length ≤ N →
    (0 ≤ s.twice → 0 ≤ s'.twice) ∧ (0 ≤ s.deep → 0 ≤ s'.deep) ∧ (s'.twice < 0 → s'.deep < 0 → Cx true s 0 0 → s.text = [] → elems s.nodes s.nodes.length = (if done = true then 1 else 0) → Cx true s' 0 0 ∧ elems s'.nodes s'.nodes.length = 1)
  | 0, done, r, s, s', h, _, _ => by unfold docF at h; cases h
  | f + 1, done, r, s, s', h, ht, hr => by
    have hbt := blanksL_texts ht
    have hbl := blanks_len r
    by_cases h0 : blanksL r = []
    · rw [docF_nil h0] at h
      split at h
      · rename_i hd
        injection h with h
        injection h with h
        subst h
        refine ⟨id, id, fun _ _ hc _ he => ⟨hc, ?_⟩⟩
        rw [if_pos hd] at he
        exact he
      · cases h
    · by_cases h60 : (blanksL r).head? = some 60
      · obtain ⟨t, hb⟩ := head_cons h60
        rw [hb] at hbt hbl
        simp only [List.length_cons] at hbl
        have htt := texts_low (by decide) hbt
        have next : ∀ (x : Nd) (r1 : Bs), x.1 ≠ 2 → x.1 ≠ 3 → docF N f done r1 (add s x) = some (.ok s') → Pch.textsL r1 = true → r1.length ≤ N → (Cx true s 0 0 → Cx true (add s x) 0 0 ∧ (add s x).text = []) →
            (0 ≤ s.twice → 0 ≤ s'.twice) ∧ (0 ≤ s.deep → 0 ≤ s'.deep) ∧ (s'.twice < 0 → s'.deep < 0 → Cx true s 0 0 → s.text = [] → elems s.nodes s.nodes.length = (if done = true then 1 else 0) → Cx true s' 0 0 ∧ elems s'.nodes s'.nodes.length = 1) := by
          intro x r1 x2 x3 hd h1 h2 hx
          obtain ⟨a1, a2, a3⟩ := docF_right f done r1 _ s' hd h1 h2
          obtain ⟨_, _, b3, b4⟩ := add_eq x3 s
          rw [b3] at a1
          rw [b4] at a2
          refine ⟨a1, a2, fun c1 c2 hc hst he => ?_⟩
          obtain ⟨d1, d2⟩ := hx hc
          refine a3 c1 c2 d1 d2 ?_
          have e2 : (if x.1 = 2 ∧ x.2.2.2 = 0 then 1 else 0) = 0 := if_neg (fun e => x2 e.1)
          rw [add_plain x3 hst, elems_snoc, he, e2, Nat.add_zero]
        by_cases h63 : t.head? = some 63
        · obtain ⟨u, rfl⟩ := head_cons h63
          rw [docF_pi hb] at h
          cases hi : instrM 0 u s with
          | error r1 => rw [hi] at h; cases h
          | ok q =>
            obtain ⟨r1, s1⟩ := q
            rw [hi] at h
            dsimp only at h
            obtain ⟨x, hx, rfl⟩ := instr_add hi
            obtain ⟨k1, _, k3⟩ := instrM_ok hi
            have hu := texts_low (by decide) htt
            have := k1.length_le
            simp only [List.length_cons] at hbl
            exact next x r1 (by rw [hx]; decide) (by rw [hx]; decide) h (k3 hu) (by omega) fun hc => by
              have := (instr_cx (root := true) (d := 0) hi hu).2.2 hc
              exact ⟨this.1, this.2.2⟩
        · by_cases h33 : t.head? = some 33
          · obtain ⟨u, rfl⟩ := head_cons h33
            rw [docF_bang hb] at h
            cases hm : mustL [45] u with
            | error r1 => rw [hm] at h; cases h
            | ok r0 =>
              rw [hm] at h
              dsimp only at h
              cases hi : commM 0 r0 s with
              | error r1 => rw [hi] at h; cases h
              | ok q =>
                obtain ⟨r1, s1⟩ := q
                rw [hi] at h
                dsimp only at h
                obtain ⟨x, hx, rfl⟩ := comm_add hi
                obtain ⟨k1, _, k3⟩ := commM_ok hi
                have hu := mustL_texts _ _ _ (by decide) (texts_low (by decide) htt) hm
                have := k1.length_le
                have := (mustL_suf hm).length_le
                simp only [List.length_cons] at hbl
                exact next x r1 (by rw [hx]; decide) (by rw [hx]; decide) h (k3 hu) (by omega) fun hc => by
                  have := (comm_cx (root := true) (d := 0) hi hu).2.2 hc
                  exact ⟨this.1, this.2.2⟩
          · rw [docF_elem hb h63 h33] at h
            split at h
            · cases h
            · rename_i hd
              cases he : elemF N f 0 1 t s with
              | none => rw [he] at h; cases h
              | some o =>
                rw [he] at h
                cases o with
                | error r1 => cases h
                | ok q =>
                  obtain ⟨r1, s1⟩ := q
                  dsimp only at h
                  obtain ⟨a1, a2, a3⟩ := (kr_all N true f).elem 0 0 t s r1 s1 he htt (by omega)
                  obtain ⟨k1, _, k3⟩ := (kc_all N f).elem 0 1 t s r1 s1 he
                  have := k1.length_le
                  obtain ⟨b1, b2, b3⟩ := docF_right f true r1 s1 s' h (k3 htt) (by omega)
                  refine ⟨fun z => b1 (a1 z), fun z => b2 (a2 z), fun c1 c2 hc hst hel => ?_⟩
                  obtain ⟨d1, d2, F, nm, M, ⟨K, d3, d4⟩, d5, d6⟩ := a3 (neg_of b1 c1) (neg_of b2 c2) hc
                  have hK := d4 hst
                  subst hK
                  rw [List.append_nil] at d3
                  subst d3
                  refine b3 c1 c2 d1 d2 ?_
                  rw [if_neg hd] at hel
                  rw [if_pos rfl, d5, elems_tail (hc.ne rfl) (by rw [← d5]; exact d6), hel]
      · rw [docF_bad h0 h60] at h
        cases h
theorem root_cx : Cx true stR 0 0 := by
  refine ⟨⟨?_, ?_, by decide, by decide, .here, .inr (.inl rfl), rfl, ?_, fun k h1 h2 => ?_, fun _ => ⟨by decide, fun k h1 _ => ?_⟩⟩, rfl, ?_, .inl rfl, fun _ => by decide⟩
  · intro k hk
    have hk : k < 1 := hk
    obtain rfl : k = 0 := by omega
    exact ⟨by decide, by decide⟩
  · intro k hk
    have hk : k < 1 := hk
    obtain rfl : k = 0 := by omega
    decide
  · intro k hk h2
    have hk : k < 1 := hk
    obtain rfl : k = 0 := by omega
    exact absurd h2 (by decide)
  · have h2 : k < 1 := h2
    omega
  · have h1 : k < 1 := h1
    omega
  · exact .inl (by decide)
theorem zero_cx : Cx false st0 (-1) 0 := by
  refine ⟨⟨?_, ?_, by decide, by decide, .here, .inl (by decide), rfl, ?_, fun k h1 h2 => ?_, fun h => (by cases h)⟩, rfl, ?_, .inl rfl, fun h => by cases h⟩
  · intro k hk; exact absurd hk (Nat.not_lt_zero _)
  · intro k hk; exact absurd hk (Nat.not_lt_zero _)
  · intro k hk; exact absurd hk (Nat.not_lt_zero _)
  · exact absurd h2 (Nat.not_lt_zero _)
  · exact .inl (by decide)
/-- what stands behind what is told -/
theorem all_inv {way : Nat → Nat → Bs → Option (Except Bs St)} {l : Bs} {L : List Nd} {y : Int} (hw : ∃ o, way l.length (fuel l.length) l = some o) (h : allM way l = (L, 0, y)) :
    ∃ st, way l.length (fuel l.length) l = some (.ok st) ∧ st.twice < 0 ∧ st.deep < 0 ∧ st.nodes.length ≤ 16384 ∧ L = st.nodes ∧ y = 0 ∧ Pch.textsL l = true := by
  by_cases hl : 65536 < l.length
  · rw [allM_long hl] at h
    injection h with h1 h2
    injection h2 with h2 h3
    cases h2
  · cases hwr : wrongL l with
    | some k =>
      rw [allM_wrong hl hwr] at h
      injection h with h1 h2
      injection h2 with h2 h3
      cases h2
    | none =>
      obtain ⟨o, ho⟩ := hw
      rw [allM_told hl hwr ho] at h
      cases o with
      | error r =>
        unfold toldM at h
        injection h with h1 h2
        injection h2 with h2 h3
        cases h2
      | ok st =>
        by_cases a : 0 ≤ st.twice
        · rw [told_twice a] at h
          injection h with h1 h2
          injection h2 with h2 h3
          cases h2
        · by_cases b : 0 ≤ st.deep
          · rw [told_deep a b] at h
            injection h with h1 h2
            injection h2 with h2 h3
            cases h2
          · by_cases c : 16384 < st.nodes.length
            · rw [told_many a b c] at h
              injection h with h1 h2
              injection h2 with h2 h3
              cases h2
            · rw [told_ok a b c] at h
              injection h with h1 h2
              injection h2 with h2 h3
              exact ⟨st, ho, by omega, by omega, by omega, h1.symm, h3.symm, wrongL_texts hwr⟩
theorem all_none {way : Nat → Nat → Bs → Option (Except Bs St)} {l : Bs} {L : List Nd} {x y : Int} (hx : x ≠ 0) (h : allM way l = (L, x, y)) : L = [] := by
  unfold allM at h
  split at h
  · injection h with h1 _
    exact h1.symm
  · split at h
    · injection h with h1 _
      exact h1.symm
    · split at h
      · unfold toldM at h
        split at h
        · injection h with h1 _
          exact h1.symm
        · split at h
          · injection h with h1 _
            exact h1.symm
          · split at h
            · injection h with h1 _
              exact h1.symm
            · split at h
              · injection h with h1 _
                exact h1.symm
              · injection h with h1 h2
                injection h2 with h2 _
                exact absurd h2.symm hx
      · injection h with h1 _
        exact h1.symm
theorem val_small {L : List Nd} {n : Nat} (h : lens L ≤ n) : ∀ k, k < L.length → (val L k).length ≤ n := by
  intro k hk
  have := lens_mem (List.getElem_mem hk)
  unfold val
  rw [List.getD_eq_getElem?_getD, List.getElem?_eq_getElem hk]
  show L[k].2.2.1.length ≤ n
  omega
/-- a row that is right, as its walks want it -/
structure Rt (root : Bool) (L : List Nd) : Prop where
  chk : chk L root = 0
  fit : ∀ i, (nam L i).length ≤ 65536 ∧ (val L i).length ≤ 65536 ∧ kin L i ≤ 255
  par : ∀ i, i < L.length → -1 ≤ par L i ∧ par L i < i
theorem kin_good {L : List Nd} {root : Bool} {i : Nat} (h : goodT L root i = true) : kin L i ≤ 255 := by
  unfold goodT headB fitsK at h
  rw [Bool.and_eq_true] at h
  have h := h.2
  split at h
  · simp only [Bool.and_eq_true, decide_eq_true_eq] at h
    omega
  · rw [Bool.and_eq_true] at h
    have h := h.2
    split at h
    · omega
    · split at h
      · omega
      · split at h
        · omega
        · split at h
          · omega
          · split at h
            · omega
            · cases h
theorem rt_fit {L : List Nd} {root : Bool} {p : Int} {d : Nat} (h : Nw root L p d) (hv : lens L ≤ 65536) : ∀ i, (nam L i).length ≤ 65536 ∧ (val L i).length ≤ 65536 ∧ kin L i ≤ 255 := by
  intro i
  rcases Nat.lt_or_ge i L.length with hi | hi
  · have := lens_mem (List.getElem_mem hi)
    refine ⟨?_, ?_, kin_good (h.gd i hi)⟩
    · unfold nam
      rw [List.getD_eq_getElem?_getD, List.getElem?_eq_getElem hi]
      show L[i].2.1.length ≤ _
      omega
    · exact Nat.le_trans (val_small (Nat.le_refl _) i hi) hv
  · have e : L[i]? = none := List.getElem?_eq_none hi
    unfold nam val kin
    rw [List.getD_eq_getElem?_getD, e]
    exact ⟨by decide, by decide, by decide⟩
theorem doc_right {l : Bs} {L : List Nd} {y : Int} (h : documentL l = (L, 0, y)) (hl : l.length ≤ 16000) : Rt true L := by
  have hs := document_lens h
  obtain ⟨st, ho, h1, h2, h3, rfl, _, ht⟩ := all_inv (docM_some l) h
  have hr : ∀ (f : Nat) (r : Bs), docF l.length f false r stR = some (.ok st) → Pch.textsL r = true → r.length ≤ l.length → Rt true st.nodes := by
    intro f r hd htr hlr
    obtain ⟨a1, a2⟩ := (docF_right f false r stR st hd htr hlr).2.2 h1 h2 root_cx rfl (by decide)
    exact ⟨chk_doc a1.nw (val_small (by omega)) (by omega) (a1.ne rfl) a2, rt_fit a1.nw (by omega), a1.nw.rng⟩
  rw [docM_eq] at ho
  split at ho
  · rename_i hc
    cases hd : declM (l.drop 5) with
    | error r => rw [hd] at ho; cases ho
    | ok r =>
      rw [hd] at ho
      obtain ⟨b1, b2⟩ := declM_ok hd
      have hb := b1.length_le
      rw [List.length_drop] at hb
      have h5 : Pch.textsL (l.drop 5) = true := by
        have := List.isPrefixOf_iff_prefix.1 hc.1
        obtain ⟨z, hz⟩ := this
        have e : l = [60, 63, 120, 109, 108] ++ z := hz.symm
        have e2 : l.drop 5 = z := by rw [e]; rfl
        rw [e2]
        exact texts_lit [60, 63, 120, 109, 108] z (by decide) (by rw [← e]; exact ht)
      exact hr _ r ho (b2 h5) (by omega)
  · exact hr _ l ho ht (Nat.le_refl _)
theorem frag_inv {N f : Nat} {l : Bs} {st : St} (h : fragM N f l = some (.ok st)) : ∃ r, contF N f (-1) 0 0 l st0 = some (.ok (r, st)) := by
  unfold fragM at h
  split at h
  · cases h
  · cases h
  · rename_i e
    injection h with h
    injection h with h
    subst h
    exact ⟨_, e⟩
theorem frag_right {l : Bs} {L : List Nd} {y : Int} (h : fragmentL l = (L, 0, y)) (hl : l.length ≤ 16000) : Rt false L := by
  have hs := fragment_lens h
  obtain ⟨st, ho, h1, h2, h3, rfl, _, ht⟩ := all_inv (fragM_some l) h
  obtain ⟨r, hc⟩ := frag_inv ho
  obtain ⟨a1, _⟩ := ((kr_all l.length false _).cont (-1) 0 0 l st0 r st hc ht (Nat.le_refl _)).2.2 h1 h2 zero_cx (.inl (by decide))
  exact ⟨chk_frag a1 (val_small (by omega)) (by omega), rt_fit a1 (by omega), a1.rng⟩
/-! ### a fragment within an element -/
def upN (x : Nd) : Nd := (x.1, x.2.1, x.2.2.1, x.2.2.2 + 2)
/-- the same state, two nodes ahead -/
structure Sh (A : List Nd) (s s1 : St) : Prop where
  nd : s1.nodes = A ++ s.nodes.map upN
  tx : s1.text = s.text
  tw : s1.twice < 0 ↔ s.twice < 0
section
variable {A : List Nd} {s s1 s' : St} {N N1 : Nat}
theorem sh_len (h : Sh A s s1) : s1.nodes.length = A.length + s.nodes.length := by rw [h.nd]; simp
theorem sh_flush (h : Sh A s s1) (p : Int) : Sh A (flush s p) (flush s1 (p + 2)) := by
  unfold flush
  rw [h.tx]
  split
  · exact h
  · exact ⟨by show s1.nodes ++ _ = _; rw [h.nd, List.map_append, List.append_assoc]; rfl, rfl, h.tw⟩
theorem sh_add (h : Sh A s s1) (x : Nd) : Sh A (add s x) (add s1 (upN x)) := by
  unfold add
  have hf := sh_flush h x.2.2.2
  show Sh A _ { (if x.1 = 3 then s1 else flush s1 (x.2.2.2 + 2)) with nodes := (if x.1 = 3 then s1 else flush s1 (x.2.2.2 + 2)).nodes ++ [upN x] }
  split
  · exact ⟨by show s1.nodes ++ _ = _; rw [h.nd, List.map_append, List.append_assoc]; rfl, h.tx, h.tw⟩
  · exact ⟨by show (flush s1 (x.2.2.2 + 2)).nodes ++ _ = _; rw [hf.nd, List.map_append, List.append_assoc]; rfl, hf.tx, hf.tw⟩
theorem sh_instr (h : Sh A s s1) {p : Int} {r r' : Bs} (hi : instrM p r s = .ok (r', s')) : ∃ s1', instrM (p + 2) r s1 = .ok (r', s1') ∧ Sh A s' s1' := by
  unfold instrM at hi ⊢
  cases hn : nameM r with
  | error r1 => rw [hn] at hi; cases hi
  | ok q =>
    obtain ⟨nm, r1⟩ := q
    rw [hn] at hi
    dsimp only at hi ⊢
    split at hi
    · cases hi
    · rename_i hx
      rw [if_neg hx]
      cases r1 with
      | nil => cases hi
      | cons x t =>
        dsimp only at hi ⊢
        by_cases hb : Pch.blankC x = true
        · rw [if_pos hb] at hi ⊢
          cases hu : untilR [63, 62] (blanksL (x :: t)) with
          | error r2 => rw [hu] at hi; cases hi
          | ok q2 =>
            obtain ⟨v, r2⟩ := q2
            rw [hu] at hi
            injection hi with hi
            injection hi with h1 h2
            subst h1 h2
            exact ⟨_, rfl, sh_add h (6, nm, said v, p)⟩
        · rw [if_neg hb] at hi ⊢
          by_cases h63 : x = 63
          · rw [if_pos h63] at hi ⊢
            cases hm : mustL [63, 62] (x :: t) with
            | error r2 => rw [hm] at hi; cases hi
            | ok r2 =>
              rw [hm] at hi
              injection hi with hi
              injection hi with h1 h2
              subst h1 h2
              exact ⟨_, rfl, sh_add h (6, nm, [], p)⟩
          · rw [if_neg h63] at hi
            cases hi
theorem sh_comm (h : Sh A s s1) {p : Int} {r r' : Bs} (hi : commM p r s = .ok (r', s')) : ∃ s1', commM (p + 2) r s1 = .ok (r', s1') ∧ Sh A s' s1' := by
  unfold commM at hi ⊢
  cases hm : mustL [45] r with
  | error r1 => rw [hm] at hi; cases hi
  | ok r1 =>
    rw [hm] at hi
    dsimp only at hi ⊢
    cases hu : untilR [45, 45] r1 with
    | error r2 => rw [hu] at hi; cases hi
    | ok q2 =>
      obtain ⟨v, r2⟩ := q2
      rw [hu] at hi
      dsimp only at hi ⊢
      cases hm2 : mustL [62] r2 with
      | error r3 => rw [hm2] at hi; cases hi
      | ok r3 =>
        rw [hm2] at hi
        injection hi with hi
        injection hi with h1 h2
        subst h1 h2
        exact ⟨_, rfl, sh_add h (5, [], said v, p)⟩
theorem sh_attr (h : Sh A s s1) (hA : A.length = 2) (hN : N ≤ N1) {q : Nat} {r r' : Bs} (hr : r.length ≤ N) (hi : attrM N q r s = .ok (r', s')) : ∃ s1', attrM N1 (q + 2) r s1 = .ok (r', s1') ∧ Sh A s' s1' := by
  unfold attrM at hi ⊢
  cases hn : nameM r with
  | error r1 => rw [hn] at hi; cases hi
  | ok q1 =>
    obtain ⟨nm, r1⟩ := q1
    rw [hn] at hi
    dsimp only at hi ⊢
    cases hm : mustL [61] (blanksL r1) with
    | error r2 => rw [hm] at hi; cases hi
    | ok r2 =>
      rw [hm] at hi
      dsimp only at hi ⊢
      cases hv : valM (blanksL r2) with
      | error r3 => rw [hv] at hi; cases hi
      | ok q3 =>
        obtain ⟨v, r3⟩ := q3
        rw [hv] at hi
        injection hi with hi
        injection hi with h1 h2
        subst h1 h2
        refine ⟨_, rfl, ?_⟩
        have hany : ((s1.nodes.drop (q + 2 + 1)).any fun o => o.2.1 == nm) = ((s.nodes.drop (q + 1)).any fun o => o.2.1 == nm) := by
          rw [h.nd, List.drop_append, List.drop_eq_nil_of_le (by omega), List.nil_append, show q + 2 + 1 - A.length = q + 1 by omega, ← List.map_drop, List.any_map]
          rfl
        have hs : Sh A { s with twice := if s.twice < 0 ∧ ((s.nodes.drop (q + 1)).any fun o => o.2.1 == nm) = true then (N : Int) - r.length else s.twice } { s1 with twice := if s1.twice < 0 ∧ ((s1.nodes.drop (q + 2 + 1)).any fun o => o.2.1 == nm) = true then (N1 : Int) - r.length else s1.twice } := by
          refine ⟨h.nd, h.tx, ?_⟩
          dsimp only
          rw [hany]
          have := h.tw
          by_cases hc : s.twice < 0 ∧ ((s.nodes.drop (q + 1)).any fun o => o.2.1 == nm) = true
          · rw [if_pos hc, if_pos ⟨this.2 hc.1, hc.2⟩]
            omega
          · rw [if_neg hc, if_neg (fun e => hc ⟨this.1 e.1, e.2⟩)]
            exact this
        exact sh_add hs (3, nm, v, (q : Int))
end
theorem sh_attrs {A : List Nd} {N N1 q : Nat} (hA : A.length = 2) (hN : N ≤ N1) : ∀ (f : Nat) (r : Bs) (s s1 : St) (r' : Bs) (s' : St), Sh A s s1 → r.length ≤ N → attrsF N q f r s = some (.ok (r', s')) → ∃ s1', attrsF N1 (q + 2) f r s1 = some (.ok (r', s1')) ∧ Sh A s' s1'
  | 0, r, s, s1, r', s', _, _, h => by cases h
  | f + 1, [], s, s1, r', s', hs, _, h => by
    rw [attrsF] at h ⊢
    injection h with h
    injection h with h
    injection h with h1 h2
    subst h1 h2
    exact ⟨s1, rfl, hs⟩
  | f + 1, x :: t, s, s1, r', s', hs, hr, h => by
    by_cases hb : blankH (x :: t) = true
    · have hbl := blanks_len (x :: t)
      by_cases h47 : (blanksL (x :: t)).head? = some 47
      · obtain ⟨u, hu⟩ := head_cons h47
        rw [attrs_end hb hu (.inl rfl)] at h ⊢
        injection h with h
        injection h with h
        injection h with h1 h2
        subst h1 h2
        exact ⟨s1, rfl, hs⟩
      · by_cases h62 : (blanksL (x :: t)).head? = some 62
        · obtain ⟨u, hu⟩ := head_cons h62
          rw [attrs_end hb hu (.inr rfl)] at h ⊢
          injection h with h
          injection h with h
          injection h with h1 h2
          subst h1 h2
          exact ⟨s1, rfl, hs⟩
        · rw [attrs_more hb h47 h62] at h ⊢
          cases ha : attrM N q (blanksL (x :: t)) s with
          | error r2 => rw [ha] at h; cases h
          | ok q2 =>
            obtain ⟨r2, s2⟩ := q2
            rw [ha] at h
            dsimp only at h
            obtain ⟨s3, a1, a2⟩ := sh_attr hs hA hN (by omega) ha
            have := (attrM_ok ha).1.length_le
            rw [a1]
            exact sh_attrs hA hN f r2 s2 s3 r' s' a2 (by omega) h
    · have hb : blankH (x :: t) = false := by simpa using hb
      rw [attrs_stop hb] at h ⊢
      injection h with h
      injection h with h
      injection h with h1 h2
      subst h1 h2
      exact ⟨s1, rfl, hs⟩
/-- contents and elements two nodes ahead -/
structure Ks (A : List Nd) (N N1 f : Nat) : Prop where
  cont : ∀ (p : Int) (d d1 run : Nat) (r : Bs) (s s1 : St) (r' : Bs) (s' : St), 0 ≤ p → Sh A s s1 → r.length ≤ N → contF N f p d run r s = some (.ok (r', s')) → ∃ s1', contF N1 f (p + 2) d1 run r s1 = some (.ok (r', s1')) ∧ Sh A s' s1'
  mark : ∀ (p : Int) (d d1 : Nat) (r : Bs) (s s1 : St) (r' : Bs) (s' : St), Sh A s s1 → r.length ≤ N → markF N f p d r s = some (.ok (r', s')) → ∃ s1', markF N1 f (p + 2) d1 r s1 = some (.ok (r', s1')) ∧ Sh A s' s1'
  elem : ∀ (p : Int) (d d1 : Nat) (r : Bs) (s s1 : St) (r' : Bs) (s' : St), Sh A s s1 → r.length ≤ N → elemF N f p d r s = some (.ok (r', s')) → ∃ s1', elemF N1 f (p + 2) d1 r s1 = some (.ok (r', s1')) ∧ Sh A s' s1'
theorem sh_text {A : List Nd} {s s1 : St} (h : Sh A s s1) (u : Bs) : Sh A { s with text := s.text ++ u } { s1 with text := s1.text ++ u } := ⟨h.nd, by show s1.text ++ u = s.text ++ u; rw [h.tx], h.tw⟩
theorem ks_cont {A : List Nd} {N N1 f : Nat} (ih : Ks A N N1 f) (p : Int) (d d1 run : Nat) (r : Bs) (s s1 : St) (r' : Bs) (s' : St) (hp : 0 ≤ p) (hs : Sh A s s1) (hr : r.length ≤ N) (h : contF N (f + 1) p d run r s = some (.ok (r', s'))) : ∃ s1', contF N1 (f + 1) (p + 2) d1 run r s1 = some (.ok (r', s1')) ∧ Sh A s' s1' := by
  cases r with
  | nil => rw [cont_lack (by omega)] at h; cases h
  | cons x t =>
    have hl : t.length + 1 ≤ N := by simpa using hr
    by_cases h62 : x = 62 ∧ 2 ≤ run
    · obtain ⟨rfl, h2⟩ := h62
      rw [cont_bad h2] at h
      cases h
    · by_cases h60 : x = 60
      · subst h60
        by_cases hc : t.head? = some 47
        · obtain ⟨u, rfl⟩ := head_cons hc
          rw [cont_close hp] at h
          rw [cont_close (by omega)]
          injection h with h
          injection h with h
          injection h with h1 h2
          subst h1 h2
          exact ⟨_, rfl, sh_flush hs p⟩
        · rw [cont_mark (fun e => hc e.2)] at h
          rw [cont_mark (fun e => hc e.2)]
          cases hm : markF N f p d t s with
          | none => rw [hm] at h; cases h
          | some o =>
            rw [hm] at h
            cases o with
            | error r1 => cases h
            | ok q =>
              obtain ⟨r1, s2⟩ := q
              dsimp only at h
              obtain ⟨s3, a1, a2⟩ := ih.mark p d d1 t s s1 r1 s2 hs (by omega) hm
              have := ((kc_all N f).mark p d t s r1 s2 hm).1.length_le
              rw [a1]
              exact ih.cont p d d1 0 r1 s2 s3 r' s' hp a2 (by omega) h
      · by_cases h38 : x = 38
        · subst h38
          rw [cont_ref] at h ⊢
          cases hf : refM t with
          | error r1 => rw [hf] at h; cases h
          | ok q =>
            obtain ⟨n, r1⟩ := q
            rw [hf] at h
            have := (refM_suf hf).length_le
            exact ih.cont p d d1 0 r1 _ _ r' s' hp (sh_text hs _) (by omega) h
        · by_cases h13 : x = 13
          · subst h13
            rw [cont_cr] at h ⊢
            have := (nlL_suf t).length_le
            exact ih.cont p d d1 0 _ _ _ r' s' hp (sh_text hs _) (by omega) h
          · rw [cont_char h62 h60 h38 h13] at h ⊢
            exact ih.cont p d d1 _ t _ _ r' s' hp (sh_text hs _) (by omega) h
theorem ks_mark {A : List Nd} {N N1 f : Nat} (ih : Ks A N N1 f) (p : Int) (d d1 : Nat) (r : Bs) (s s1 : St) (r' : Bs) (s' : St) (hs : Sh A s s1) (hr : r.length ≤ N) (h : markF N (f + 1) p d r s = some (.ok (r', s'))) : ∃ s1', markF N1 (f + 1) (p + 2) d1 r s1 = some (.ok (r', s1')) ∧ Sh A s' s1' := by
  by_cases h63 : r.head? = some 63
  · obtain ⟨t, rfl⟩ := head_cons h63
    rw [mark_instr] at h ⊢
    injection h with h
    obtain ⟨s2, a1, a2⟩ := sh_instr hs h
    exact ⟨s2, by rw [a1], a2⟩
  · by_cases h33 : r.head? = some 33
    · obtain ⟨t, rfl⟩ := head_cons h33
      by_cases h45 : t.head? = some 45
      · obtain ⟨u, rfl⟩ := head_cons h45
        rw [mark_comm] at h ⊢
        injection h with h
        obtain ⟨s2, a1, a2⟩ := sh_comm hs h
        exact ⟨s2, by rw [a1], a2⟩
      · rw [mark_cdata h45] at h ⊢
        injection h with h
        unfold cdataM at h ⊢
        cases hm : mustL [91, 67, 68, 65, 84, 65, 91] t with
        | error r1 => rw [hm] at h; cases h
        | ok r1 =>
          rw [hm] at h
          dsimp only at h ⊢
          cases hu : untilR [93, 93, 62] r1 with
          | error r2 => rw [hu] at h; cases h
          | ok q2 =>
            obtain ⟨v, r2⟩ := q2
            rw [hu] at h
            injection h with h
            injection h with h1 h2
            subst h1 h2
            exact ⟨_, rfl, sh_text hs _⟩
    · rw [mark_elem h63 h33] at h ⊢
      exact ih.elem p (d + 1) (d1 + 1) r s s1 r' s' hs hr h
theorem ks_elem {A : List Nd} {N N1 f : Nat} (hA : A.length = 2) (hN : N ≤ N1) (ih : Ks A N N1 f) (p : Int) (d d1 : Nat) (r : Bs) (s s1 : St) (r' : Bs) (s' : St) (hs : Sh A s s1) (hr : r.length ≤ N) (h : elemF N (f + 1) p d r s = some (.ok (r', s'))) : ∃ s1', elemF N1 (f + 1) (p + 2) d1 r s1 = some (.ok (r', s1')) ∧ Sh A s' s1' := by
  rw [elem_tail] at h ⊢
  cases hn : nameM r with
  | error r1 => rw [hn] at h; cases h
  | ok q =>
    obtain ⟨nm, r1⟩ := q
    rw [hn] at h
    dsimp only at h ⊢
    have hl1 := (nameM_suf hn).length_le
    have hS : Sh A (elemS N p d r nm s) (elemS N1 (p + 2) d1 r nm s1) := by
      have h0 : Sh A { s with deep := if 60 < d ∧ s.deep < 0 then (N : Int) - r.length - 1 else s.deep } { s1 with deep := if 60 < d1 ∧ s1.deep < 0 then (N1 : Int) - r.length - 1 else s1.deep } := ⟨hs.nd, hs.tx, hs.tw⟩
      exact sh_add h0 (2, nm, [], p)
    have hpos := elemS_text N p d r nm s
    have hlen := sh_len hS
    obtain ⟨S, hSS⟩ : ∃ S, elemS N p d r nm s = S := ⟨_, rfl⟩
    obtain ⟨S1, hSS1⟩ : ∃ S1, elemS N1 (p + 2) d1 r nm s1 = S1 := ⟨_, rfl⟩
    rw [hSS] at h hS hpos hlen
    rw [hSS1] at hS hlen ⊢
    have hq : S1.nodes.length.pred = S.nodes.length.pred + 2 := by
      rw [hlen, hA]
      simp only [Nat.pred_eq_sub_one]
      omega
    rw [hq]
    generalize S.nodes.length.pred = Q at h ⊢
    cases ha : attrsF N Q (f + 1) r1 S with
    | none => rw [ha] at h; cases h
    | some oA =>
      rw [ha] at h
      dsimp only at h
      cases oA with
      | error r2 => cases h
      | ok q2 =>
        obtain ⟨r2, s2⟩ := q2
        obtain ⟨s3, b1, b2⟩ := sh_attrs hA hN (f + 1) r1 S S1 r2 s2 hS (by omega) ha
        have hl2 := (attrsF_ok _ _ _ _ _ ha).1.length_le
        rw [b1]
        dsimp only
        by_cases h47 : r2.head? = some 47
        · obtain ⟨t, rfl⟩ := head_cons h47
          rw [tail_slash] at h ⊢
          injection h with h
          cases hm : mustL [62] t with
          | error r3 => rw [hm] at h; cases h
          | ok r3 =>
            rw [hm] at h
            injection h with h
            injection h with h1 h2
            subst h1 h2
            exact ⟨s3, rfl, b2⟩
        · cases hm : mustL [62] r2 with
          | error r3 => rw [tail_no h47 hm] at h; cases h
          | ok r3 =>
            rw [tail_cont h47 hm] at h ⊢
            have hl3 := (mustL_suf hm).length_le
            cases hco : contF N f (Q : Int) d 0 r3 s2 with
            | none => rw [hco] at h; cases h
            | some o =>
              rw [hco] at h
              cases o with
              | error r4 => cases h
              | ok q4 =>
                obtain ⟨r4, s4⟩ := q4
                dsimp only at h
                obtain ⟨s5, c1, c2⟩ := ih.cont (Q : Int) d d1 0 r3 s2 s3 r4 s4 (by omega) b2 (by omega) hco
                rw [show ((Q + 2 : Nat) : Int) = (Q : Int) + 2 by omega, c1]
                dsimp only
                injection h with h
                cases hcl : closeM nm r4 with
                | error r6 => rw [hcl] at h; cases h
                | ok r6 =>
                  rw [hcl] at h
                  injection h with h
                  injection h with h1 h2
                  subst h1 h2
                  exact ⟨s5, rfl, c2⟩
theorem ks_all {A : List Nd} {N N1 : Nat} (hA : A.length = 2) (hN : N ≤ N1) : ∀ f, Ks A N N1 f
  | 0 => ⟨fun p d d1 run r s s1 r' s' _ _ _ h => (by unfold contF at h; cases h), fun p d d1 r s s1 r' s' _ _ h => (by unfold markF at h; cases h), fun p d d1 r s s1 r' s' _ _ h => (by unfold elemF at h; cases h)⟩
  | f + 1 => ⟨ks_cont (ks_all hA hN f), ks_mark (ks_all hA hN f), ks_elem hA hN (ks_all hA hN f)⟩
/-- a fragment's content, with an end tag behind it -/
theorem frag_in {A : List Nd} {N N1 : Nat} {z : Bs} (hA : A.length = 2) (hN : N ≤ N1) : ∀ (f : Nat) (d d1 run : Nat) (r : Bs) (s s1 : St) (r' : Bs) (s' : St), Pch.textsL r = true → Sh A s s1 → r.length ≤ N → contF N f (-1) d run r s = some (.ok (r', s')) → ∃ s1', contF (N1 + (60 :: 47 :: z).length) f 1 d1 run (r ++ 60 :: 47 :: z) s1 = some (.ok (z, s1')) ∧ Sh A s' s1' := by
  intro f
  induction f using Nat.strongRecOn with
  | ind f ih =>
    intro d d1 run r s s1 r' s' ht hs hr h
    cases f with
    | zero => unfold contF at h; cases h
    | succ f =>
      cases r with
      | nil =>
        rw [cont_end (by decide)] at h
        injection h with h
        injection h with h
        injection h with h1 h2
        subst h2
        rw [List.nil_append, cont_close (by decide)]
        exact ⟨_, rfl, sh_flush hs (-1)⟩
      | cons x t =>
        have hl : t.length + 1 ≤ N := by simpa using hr
        rw [List.cons_append]
        by_cases h62 : x = 62 ∧ 2 ≤ run
        · obtain ⟨rfl, h2⟩ := h62
          rw [cont_bad h2] at h
          cases h
        · by_cases h60 : x = 60
          · subst h60
            have htt := texts_low (by decide) ht
            rw [cont_mark (fun e => absurd e.1 (by decide))] at h
            cases hm : markF N f (-1) d t s with
            | none => rw [hm] at h; cases h
            | some o =>
              rw [hm] at h
              cases o with
              | error r1 => cases h
              | ok q =>
                obtain ⟨r1, s2⟩ := q
                dsimp only at h
                obtain ⟨s3, a1, a2⟩ := (ks_all (N := N) hA hN f).mark (-1) d d1 t s s1 r1 s2 hs (by omega) hm
                have hk := (kc_all N f).mark (-1) d t s r1 s2 hm
                have := hk.1.length_le
                have hz := (kx_all N1 (60 :: 47 :: z) 0 f).mark 1 d1 t s1 _ htt a1 trivial
                have hno : ¬ (0 ≤ (1 : Int) ∧ (t ++ 60 :: 47 :: z).head? = some 47) := by
                  rintro ⟨_, e⟩
                  cases t with
                  | nil => cases e
                  | cons y u =>
                    have e : y = 47 := by simpa using e
                    subst e
                    cases f with
                    | zero => unfold markF at hm; cases hm
                    | succ f =>
                      rw [mark_elem (by simp) (by simp)] at hm
                      cases f with
                      | zero => unfold elemF at hm; cases hm
                      | succ f =>
                        rw [elem_tail] at hm
                        have hb : nameM (47 :: u) = .error (47 :: u) := by
                          unfold nameM
                          rw [if_neg (by rw [peek_low 47 u (by decide)]; decide)]
                        rw [hb] at hm
                        cases hm
                rw [cont_mark hno]
                rw [Nat.add_zero] at hz
                rw [hz]
                exact ih f (by omega) d d1 0 r1 s2 s3 r' s' (hk.2.2 htt) a2 (by omega) h
          · by_cases h38 : x = 38
            · subst h38
              rw [cont_ref] at h
              cases hf : refM t with
              | error r1 => rw [hf] at h; cases h
              | ok q =>
                obtain ⟨n, r1⟩ := q
                rw [hf] at h
                have := (refM_suf hf).length_le
                rw [cont_ref, (refM_app (60 :: 47 :: z)).1 n r1 hf]
                exact ih f (by omega) d d1 0 r1 _ _ r' s' (Ppa.refM_texts hf (texts_low (by decide) ht)) (sh_text hs _) (by omega) h
            · by_cases h13 : x = 13
              · subst h13
                rw [cont_cr] at h ⊢
                have := (nlL_suf t).length_le
                have htt := texts_low (by decide) ht
                have hn : nlL (t ++ 60 :: 47 :: z) = nlL t ++ 60 :: 47 :: z := by
                  cases t with
                  | nil => rfl
                  | cons y u =>
                    by_cases hy : y = 10
                    · subst hy; rfl
                    · have e1 : nlL (y :: u) = y :: u := by
                        unfold nlL
                        split
                        · rename_i e; injection e with e _; exact absurd e hy
                        · rfl
                      have e2 : nlL (y :: u ++ 60 :: 47 :: z) = y :: u ++ 60 :: 47 :: z := by
                        unfold nlL
                        split
                        · rename_i e; injection e with e _; exact absurd e hy
                        · rfl
                      rw [e1, e2]
                rw [hn]
                exact ih f (by omega) d d1 0 _ _ _ r' s' (nlL_texts htt) (sh_text hs _) (by omega) h
              · rcases Nat.lt_or_ge x.toNat 128 with hx | hx
                · rw [cont_char h62 h60 h38 h13] at h ⊢
                  exact ih f (by omega) d d1 _ t _ _ r' s' (texts_low hx ht) (sh_text hs _) (by omega) h
                · have hne : (x :: t) ≠ [] := by simp
                  have hd2 := Lib.decodeL_le (x :: t) hne
                  have hd1 := Lib.decodeL_width (x :: t)
                  have hzz : ((x :: t).take (Lib.decodeL (x :: t)).2).length = (Lib.decodeL (x :: t)).2 := by rw [List.length_take]; omega
                  have hh := Ppa.char_high hx ht
                  have hun : (x :: t).take (Lib.decodeL (x :: t)).2 ≠ [] := by intro e; rw [e] at hzz; simp at hzz; omega
                  rcases Nat.lt_or_ge (f + 1) (Lib.decodeL (x :: t)).2 with hg | hg
                  · exfalso
                    exact cont_short ((x :: t).take (Lib.decodeL (x :: t)).2) (f + 1) (-1) d run ((x :: t).drop (Lib.decodeL (x :: t)).2) s hh (by omega) (by rw [List.take_append_drop]; exact h)
                  · have hc := Ppa.contF_copy N ((x :: t).take (Lib.decodeL (x :: t)).2) (f + 1 - (Lib.decodeL (x :: t)).2) (-1) d run ((x :: t).drop (Lib.decodeL (x :: t)).2) s hun hh
                    rw [hzz, List.take_append_drop, show f + 1 - (Lib.decodeL (x :: t)).2 + (Lib.decodeL (x :: t)).2 = f + 1 by omega, h] at hc
                    have hc2 := Ppa.contF_copy (N1 + (60 :: 47 :: z).length) ((x :: t).take (Lib.decodeL (x :: t)).2) (f + 1 - (Lib.decodeL (x :: t)).2) 1 d1 run ((x :: t).drop (Lib.decodeL (x :: t)).2 ++ 60 :: 47 :: z) s1 hun hh
                    rw [hzz, ← List.append_assoc, List.take_append_drop, show f + 1 - (Lib.decodeL (x :: t)).2 + (Lib.decodeL (x :: t)).2 = f + 1 by omega] at hc2
                    rw [← List.cons_append, hc2]
                    exact ih _ (by omega) d d1 0 _ _ _ r' s' (texts_step hne ht).2.2 (sh_text hs _) (by rw [List.length_drop]; omega) hc.symm
theorem wrongF_none : ∀ (f k : Nat) (r : Bs), Pch.textsL r = true → wrongF f k r = none
  | 0, _, _, _ => rfl
  | f + 1, k, r, h => by
    by_cases hne : r = []
    · subst hne; exact wrong_end _ _
    · obtain ⟨a1, a2, a3⟩ := texts_step hne h
      rw [wrong_next hne a2 a1]
      exact wrongF_none f _ _ a3
theorem nameM_low (c d : UInt8) (t : Bs) (hc : c.toNat < 128) (hd : d.toNat < 128) (h1 : Pch.startB (c.toNat : Int) = true) (h2 : Pch.nameB (c.toNat : Int) = true) (h3 : Pch.nameB (d.toNat : Int) = false) : nameM (c :: d :: t) = .ok ([c], d :: t) := by
  rw [nameM_eq (by rw [peek_low c _ hc]; exact h1), show (c :: d :: t).length = (d :: t).length + 1 from rfl, nameF_step _ _ _ (by rw [peek_low c _ hc]; exact h2), decodeL_ascii c _ hc, skip_low c _ hc, if_neg (by show ¬ 100 < 0 + 1; decide), nameF_end _ _ _ (by rw [peek_low d _ hd]; exact h3)]
  rfl
/-- a fragment, with an element about it -/
theorem frag_within {l : Bs} {U V : List Nd} {x y z : Int} (h : fragmentL l = (U, 0, y)) (hl : l.length ≤ 60000) (hd : documentL ([60, 114, 62] ++ l ++ [60, 47, 114, 62]) = (V, x, z)) :
    x = 131 ∨ x = 3 ∨ (x = 0 ∧ V = (1, [], [], -1) :: (2, [114], [], 0) :: U.map upN) := by
  obtain ⟨st, ho, h1, h2, h3, rfl, _, ht⟩ := all_inv (fragM_some l) h
  obtain ⟨r, hc⟩ := frag_inv ho
  have hlen : ([60, 114, 62] ++ l ++ [60, 47, 114, 62]).length = l.length + 7 := by simp
  have hS : Sh [(1, [], [], -1), (2, [114], [], 0)] st0 ⟨[(1, [], [], -1), (2, [114], [], 0)], [], -1, -1⟩ := ⟨rfl, rfl, Iff.rfl⟩
  obtain ⟨s1, a1, a2⟩ := frag_in (z := [114, 62]) (N1 := l.length + 3) rfl (by omega) (fuel l.length) 0 1 0 l st0 _ r st ht hS (Nat.le_refl _) hc
  have htx : Pch.textsL (l ++ [60, 47, 114, 62]) = true := by rw [Pch.texts_left _ _ ht]; decide
  have hz : l.length + 3 + (60 :: 47 :: [114, 62] : Bs).length = l.length + 7 := rfl
  rw [hz] at a1
  have a3 := (kx_all (l.length + 7) [] 19 (fuel l.length)).cont 1 1 0 (l ++ 60 :: 47 :: [114, 62]) _ _ (by decide) (Tx.of htx) a1 trivial
  rw [List.append_nil, show (l.length + 7 + ([] : Bs).length) = l.length + 7 from rfl] at a3
  have hw : wrongL ([60, 114, 62] ++ l ++ [60, 47, 114, 62]) = none := by
    refine wrongF_none _ _ _ ?_
    rw [List.append_assoc, Pch.texts_left _ _ (by decide), htx]
  have hD : docM ([60, 114, 62] ++ l ++ [60, 47, 114, 62]).length (fuel ([60, 114, 62] ++ l ++ [60, 47, 114, 62]).length) ([60, 114, 62] ++ l ++ [60, 47, 114, 62]) = some (.ok s1) := by
    rw [hlen, docM_eq, if_neg (by rintro ⟨h, _⟩; cases h), show fuel (l.length + 7) = (3 * l.length + 29) + 1 by unfold fuel; omega]
    rw [docF_elem (t := 114 :: 62 :: (l ++ [60, 47, 114, 62])) (by show blanksL (60 :: 114 :: 62 :: (l ++ [60, 47, 114, 62])) = _; exact blanksL_of_false rfl) (by simp) (by simp), if_neg (by simp)]
    rw [show 3 * l.length + 29 = (3 * l.length + 28) + 1 from rfl, elem_tail, nameM_low 114 62 _ (by decide) (by decide) (by decide) (by decide) (by decide)]
    dsimp only
    have hE : elemS (l.length + 7) 0 1 (114 :: 62 :: (l ++ [60, 47, 114, 62])) [114] stR = ⟨[(1, [], [], -1), (2, [114], [], 0)], [], -1, -1⟩ := by
      unfold elemS
      rw [if_neg (by omega)]
      rfl
    rw [hE, attrs_stop (by rfl)]
    dsimp only
    rw [tail_cont (r3 := l ++ [60, 47, 114, 62]) (by simp) (by rw [mustL_eq]; rfl)]
    have h4 : contF (l.length + 7) (3 * l.length + 28) ((([(1, [], [], -1), (2, [114], [], 0)] : List Nd).length.pred : Nat) : Int) 1 0 (l ++ [60, 47, 114, 62]) ⟨[(1, [], [], -1), (2, [114], [], 0)], [], -1, -1⟩ = some (.ok ([114, 62], s1)) := by
      have e : fuel l.length + 19 = 3 * l.length + 28 := by unfold fuel; omega
      rw [e] at a3
      exact a3
    rw [h4]
    dsimp only
    rw [show closeM [114] [114, 62] = .ok [] from by rfl]
    dsimp only
    rw [show 3 * l.length + 28 + 1 = (3 * l.length + 28) + 1 from rfl, docF_nil (by rfl), if_pos rfl]
  unfold documentL at hd
  rw [allM_told (by omega) hw hD] at hd
  have htw := a2.tw.2 h1
  by_cases b : 0 ≤ s1.deep
  · rw [told_deep (by omega) b] at hd
    injection hd with _ hd
    injection hd with hd _
    exact .inl hd.symm
  · by_cases c : 16384 < s1.nodes.length
    · rw [told_many (by omega) b c] at hd
      injection hd with _ hd
      injection hd with hd _
      exact .inr (.inl hd.symm)
    · rw [told_ok (by omega) b c] at hd
      injection hd with hV hd
      injection hd with hd _
      exact .inr (.inr ⟨hd.symm, by rw [← hV, a2.nd]; rfl⟩)
end Go.Proofs.YtemfmidhekdekaaGreatDoor.Ppa
