/- Plain: what follows a text does not change what has been read of it (chapter 07). Plain: what follows a text does not change what has been read of it: values, markup, elements (chapter 07). Plain: what follows a text does not change what has been read of it: elements, documents (chapter 07). Plain: a fault of shape stands, whatever follows: whole documents (chapter 07). Plain: where a reading gives up stands an end of the text, at a character (chapter 07). Plain: ParseCut: a fault of shape stands at its place whatever follows; cut there the text lacks something (chapter 07). -/
import Derived.Test.YtmdbjoebcolcfaaDoorParseAF
namespace Go.Proofs.YtmdbjoebcolcfaaDoor.Ppa
open Go Go.Lib Go.Proofs.YtmdbjoebcolcfaaDoor.Ptr Go.Proofs.YtmdbjoebcolcfaaDoor.Wps

theorem dec_app {r : Bs} (z : Bs) (hne : r ≠ []) (h : Pch.textsL r = true) : decodeL (r ++ z) = decodeL r := Pch.decode_app r z hne (texts_step hne h).1
theorem peek_app {r : Bs} (z : Bs) (hne : r ≠ []) (h : Pch.textsL r = true) : peek (r ++ z) = peek r := by
  rw [peek_has hne, peek_has (by simp [hne]), dec_app z hne h]
theorem skip_app {r : Bs} (z : Bs) (hne : r ≠ []) (h : Pch.textsL r = true) : skip (r ++ z) = skip r ++ z := by
  unfold skip
  rw [dec_app z hne h, List.drop_append_of_le_length (decodeL_le r hne)]
theorem mustL_app_ok (z : Bs) : ∀ (a r t : Bs), mustL a r = .ok t → mustL a (r ++ z) = .ok (t ++ z)
  | [], r, t, h => by injection h with h; rw [h]; rfl
  | c :: a, [], t, h => by cases h
  | c :: a, x :: u, t, h => by
    rw [List.cons_append]
    unfold mustL at h ⊢
    split at h
    · rename_i e
      rw [if_pos e]
      exact mustL_app_ok z a u t h
    · cases h
theorem mustL_app_no (z : Bs) : ∀ (a r t : Bs), mustL a r = .error t → t ≠ [] → mustL a (r ++ z) = .error (t ++ z)
  | [], r, t, h, _ => by cases h
  | c :: a, [], t, h, hn => by injection h with h; exact absurd h.symm hn
  | c :: a, x :: u, t, h, hn => by
    rw [List.cons_append]
    unfold mustL at h ⊢
    split at h
    · rename_i e
      rw [if_pos e]
      exact mustL_app_no z a u t h hn
    · rename_i e
      injection h with h
      rw [if_neg e, ← h]
      rfl
theorem blanksL_app (z : Bs) : ∀ (r : Bs), blanksL r ≠ [] → blanksL (r ++ z) = blanksL r ++ z
  | [], h => absurd rfl h
  | x :: u, h => by
    unfold blanksL at h ⊢
    rw [List.cons_append, List.dropWhile_cons, List.dropWhile_cons]
    rw [List.dropWhile_cons] at h
    split
    · rename_i e
      rw [if_pos e] at h
      exact blanksL_app z u h
    · rfl
theorem nameF_app (z : Bs) : ∀ (f f' k : Nat) (r : Bs), r.length ≤ f → r.length + z.length ≤ f' → Pch.textsL r = true → (∀ m, nameF f k r = .ok m → m < k + r.length → nameF f' k (r ++ z) = .ok m) ∧ (∀ m, nameF f k r = .error m → nameF f' k (r ++ z) = .error m)
  | 0, f', k, r, h1, h2, ht => by
    have : r = [] := List.eq_nil_of_length_eq_zero (by omega)
    subst this
    exact ⟨fun m h hm => by injection h with h; simp at hm; omega, fun m h => by cases h⟩
  | f + 1, f', k, r, h1, h2, ht => by
    by_cases hne : r = []
    · subst hne
      refine ⟨fun m h hm => ?_, fun m h => ?_⟩
      · have := (nameF_ok _ _ _ _ h).1
        simp at hm
        omega
      · have := nameF_err _ _ _ _ h
        rw [nameF, if_neg (by decide)] at h
        cases h
    · have hp := List.length_pos_iff.2 hne
      obtain ⟨g', rfl⟩ : ∃ g', f' = g' + 1 := ⟨f' - 1, by omega⟩
      have hw := decodeL_width r
      have hle := decodeL_le r hne
      have hl : (skip r).length = r.length - (decodeL r).2 := by unfold skip; exact List.length_drop
      have ih := nameF_app z f g' (k + (decodeL r).2) (skip r) (by omega) (by omega) (texts_step hne ht).2.2
      unfold nameF
      rw [peek_app z hne ht, dec_app z hne ht, skip_app z hne ht]
      split
      · split
        · exact ⟨fun m h => (by cases h), fun m h => h⟩
        · exact ⟨fun m h hm => ih.1 m h (by omega), ih.2⟩
      · exact ⟨fun m h _ => h, fun m h => by cases h⟩
theorem nameM_app_ok {r nm t : Bs} (z : Bs) (ht : Pch.textsL r = true) (h : nameM r = .ok (nm, t)) (hn : t ≠ []) : nameM (r ++ z) = .ok (nm, t ++ z) := by
  have h1 := nameM_ok h
  have hlt := nameM_lt h
  have hp := List.length_pos_iff.2 hn
  have hne : r ≠ [] := by intro e; have h9 : r.length = 0 := by rw [e]; rfl
                          omega
  unfold nameM at h ⊢
  rw [peek_app z hne ht]
  split at h
  · rename_i hst
    rw [if_pos hst]
    cases hk : nameF r.length 0 r with
    | error k => rw [hk] at h; cases h
    | ok k =>
      rw [hk] at h
      injection h with h
      injection h with h2 h3
      have hkl : k < r.length := by
        have := congrArg List.length h3
        rw [List.length_drop] at this
        omega
      rw [(nameF_app z r.length (r ++ z).length 0 r (Nat.le_refl _) (by simp) ht).1 k hk (by omega)]
      dsimp only
      rw [List.take_append_of_le_length (by omega), List.drop_append_of_le_length (by omega), h2, h3]
  · cases h
theorem nameM_app_no {r t : Bs} (z : Bs) (ht : Pch.textsL r = true) (h : nameM r = .error t) (hn : t ≠ []) : nameM (r ++ z) = .error (t ++ z) := by
  by_cases hne : r = []
  · subst hne
    unfold nameM at h
    rw [if_neg (by decide)] at h
    injection h with h
    exact absurd h.symm hn
  · unfold nameM at h ⊢
    rw [peek_app z hne ht]
    split at h
    · rename_i hst
      rw [if_pos hst]
      cases hk : nameF r.length 0 r with
      | ok k => rw [hk] at h; cases h
      | error k =>
        rw [hk] at h
        injection h with h
        have hkl := (nameF_err _ _ _ _ hk).2
        rw [(nameF_app z r.length (r ++ z).length 0 r (Nat.le_refl _) (by simp) ht).2 k hk]
        dsimp only
        rw [List.drop_append_of_le_length (by omega), h]
    · rename_i hst
      injection h with h
      rw [if_neg hst, h]
theorem pre_app {e l : Bs} (z : Bs) (h : e.length ≤ l.length) : hasPrefix (l ++ z) e = hasPrefix l e := by
  show e.isPrefixOf (l ++ z) = e.isPrefixOf l
  rw [Bool.eq_iff_iff, List.isPrefixOf_iff_prefix, List.isPrefixOf_iff_prefix]
  constructor
  · intro hp
    exact List.prefix_of_prefix_length_le hp (List.prefix_append l z) h
  · exact fun hp => hp.trans (List.prefix_append l z)
theorem untilM_len (e : Bs) : ∀ (r v t : Bs), untilM e r = some (v, t) → e.length ≤ r.length := by
  intro r v t h
  rw [untilM_app e r v t h]
  simp
  omega
theorem untilM_app_ok (e z : Bs) : ∀ (r v t : Bs), untilM e r = some (v, t) → e ≠ [] → untilM e (r ++ z) = some (v, t ++ z)
  | [], v, t, h, he => by
    unfold untilM at h
    rw [if_neg he] at h
    cases h
  | x :: u, v, t, h, he => by
    have hl := untilM_len e (x :: u) v t h
    have hpre := pre_app (e := e) (l := x :: u) z hl
    rw [List.cons_append] at hpre ⊢
    unfold untilM at h ⊢
    rw [hpre]
    split at h
    · rename_i hp
      rw [if_pos hp]
      injection h with h
      injection h with h1 h2
      subst h1 h2
      rw [← List.cons_append, List.drop_append_of_le_length hl]
    · rename_i hp
      rw [if_neg hp]
      cases hu : untilM e u with
      | none => rw [hu] at h; cases h
      | some q =>
        obtain ⟨v', t'⟩ := q
        rw [hu] at h
        injection h with h
        injection h with h1 h2
        dsimp only at h1 h2
        rw [untilM_app_ok e z u v' t' hu he, ← h1, ← h2]
        rfl
theorem untilR_app_ok {e r v t : Bs} (z : Bs) (h : untilR e r = .ok (v, t)) (he : e ≠ []) : untilR e (r ++ z) = .ok (v, t ++ z) := by
  unfold untilR at h ⊢
  cases hu : untilM e r with
  | none => rw [hu] at h; cases h
  | some q =>
    rw [hu] at h
    injection h with h
    subst h
    rw [untilM_app_ok e z r v t hu he]
theorem untilR_err {e r t : Bs} (h : untilR e r = .error t) : t = [] := by
  unfold untilR at h
  cases hu : untilM e r with
  | none => rw [hu] at h; injection h with h; exact h.symm
  | some q => rw [hu] at h; cases h
theorem digO_app {hex : Bool} {y : UInt8} {u z : Bs} : digO hex (y :: u ++ z) = digO hex (y :: u) := rfl
theorem low_of_peek {y : UInt8} {u : Bs} (z : Bs) : (peek (y :: u ++ z) = 59) ↔ (peek (y :: u) = 59) := by
  rw [show ((59 : Int)) = (((59 : UInt8)).toNat : Int) from rfl, peek_is 59 (by decide), peek_is 59 (by decide)]
  rfl
theorem numG_app_ok {hex : Bool} (z : Bs) : ∀ (r : Bs) (n : Nat) (any : Bool) (m : Nat) (t : Bs), numG hex n any r = .ok (m, t) → numG hex n any (r ++ z) = .ok (m, t ++ z)
  | [], n, any, m, t, h => by rw [numG] at h; cases h
  | y :: u, n, any, m, t, h => by
    cases hd : digO hex (y :: u) with
    | some d =>
      rw [numG_more hd] at h
      rw [numG_more (r := y :: u ++ z) (by rw [digO_app]; exact hd)]
      generalize n * (if hex = true then 16 else 10) + d = q at h ⊢
      split at h
      · cases h
      · rename_i hq
        rw [if_neg hq]
        exact numG_app_ok z u _ true m t h
    | none =>
      rw [numG_end hd] at h
      rw [numG_end (r := y :: u ++ z) (by rw [digO_app]; exact hd)]
      split at h
      · cases h
      · rename_i hq
        rw [if_neg (by rw [Ne, low_of_peek z]; exact hq)]
        injection h with h
        injection h with h1 h2
        subst h1 h2
        rfl
theorem numG_app_no {hex : Bool} (z : Bs) : ∀ (r : Bs) (n : Nat) (any : Bool) (t : Bs), numG hex n any r = .error t → t ≠ [] → numG hex n any (r ++ z) = .error (t ++ z)
  | [], n, any, t, h, hn => by rw [numG] at h; injection h with h; exact absurd h.symm hn
  | y :: u, n, any, t, h, hn => by
    cases hd : digO hex (y :: u) with
    | some d =>
      rw [numG_more hd] at h
      rw [numG_more (r := y :: u ++ z) (by rw [digO_app]; exact hd)]
      generalize n * (if hex = true then 16 else 10) + d = q at h ⊢
      split at h
      · rename_i hq
        rw [if_pos hq]
        injection h with h
        rw [← h]
      · rename_i hq
        rw [if_neg hq]
        exact numG_app_no z u _ true t h hn
    | none =>
      rw [numG_end hd] at h
      rw [numG_end (r := y :: u ++ z) (by rw [digO_app]; exact hd)]
      split at h
      · rename_i hq
        rw [if_pos (by rw [Ne, low_of_peek z]; exact hq)]
        injection h with h
        rw [← h]
      · cases h
theorem isM_app_ok {a r t : Bs} {n m : Nat} (z : Bs) (h : isM a n r = .ok (m, t)) : isM a n (r ++ z) = .ok (m, t ++ z) := by
  unfold isM at h ⊢
  cases hm : mustL a r with
  | error u => rw [hm] at h; cases h
  | ok u =>
    rw [hm] at h
    injection h with h
    injection h with h1 h2
    subst h1 h2
    rw [mustL_app_ok z a r u hm]
theorem isM_app_no {a r t : Bs} {n : Nat} (z : Bs) (h : isM a n r = .error t) (hn : t ≠ []) : isM a n (r ++ z) = .error (t ++ z) := by
  unfold isM at h ⊢
  cases hm : mustL a r with
  | ok u => rw [hm] at h; cases h
  | error u =>
    rw [hm] at h
    injection h with h
    subst h
    rw [mustL_app_no z a r u hm hn]
theorem numM_dec {u : Bs} (h : u.head? ≠ some 120) : numM u = numG false 0 false u := by
  unfold numM
  split
  · exact absurd rfl h
  · rfl
theorem head_app {r : Bs} (z : Bs) (h : r ≠ []) : (r ++ z).head? = r.head? := by
  cases r with
  | nil => exact absurd rfl h
  | cons y u => rfl
theorem refM_nil : refM [] = .error [] := rfl
theorem refM_app {r : Bs} (z : Bs) : (∀ n t, refM r = .ok (n, t) → refM (r ++ z) = .ok (n, t ++ z)) ∧ (∀ t, refM r = .error t → t ≠ [] → refM (r ++ z) = .error (t ++ z)) := by
  cases r with
  | nil => exact ⟨fun n t h => (by cases h), fun t h hn => by rw [refM_nil] at h; injection h with h; exact absurd h.symm hn⟩
  | cons y u =>
    have hne : (y :: u) ≠ [] := by simp
    by_cases h1 : y = 35
    · subst h1
      rw [List.cons_append, refM_num, refM_num]
      cases u with
      | nil => exact ⟨fun n t h => (by cases h), fun t h hn => by rw [show numM [] = .error [] from rfl] at h; injection h with h; exact absurd h.symm hn⟩
      | cons x v =>
        by_cases hx : x = 120
        · subst hx
          exact ⟨fun n t h => numG_app_ok z v 0 false n t h, fun t h hn => numG_app_no z v 0 false t h hn⟩
        · have hh : (x :: v).head? ≠ some 120 := by intro e; injection e with e; exact hx e
          have hh2 : (x :: v ++ z).head? ≠ some 120 := hh
          rw [numM_dec hh, numM_dec hh2]
          exact ⟨fun n t h => numG_app_ok z (x :: v) 0 false n t h, fun t h hn => numG_app_no z (x :: v) 0 false t h hn⟩
    · by_cases h2 : y = 108
      · subst h2
        exact ⟨fun n t h => isM_app_ok (a := [108, 116, 59]) (n := 60) (r := 108 :: u) z h, fun t h hn => isM_app_no (a := [108, 116, 59]) (n := 60) (r := 108 :: u) z h hn⟩
      · by_cases h3 : y = 103
        · subst h3
          exact ⟨fun n t h => isM_app_ok (a := [103, 116, 59]) (n := 62) (r := 103 :: u) z h, fun t h hn => isM_app_no (a := [103, 116, 59]) (n := 62) (r := 103 :: u) z h hn⟩
        · by_cases h4 : y = 113
          · subst h4
            exact ⟨fun n t h => isM_app_ok (a := [113, 117, 111, 116, 59]) (n := 34) (r := 113 :: u) z h, fun t h hn => isM_app_no (a := [113, 117, 111, 116, 59]) (n := 34) (r := 113 :: u) z h hn⟩
          · by_cases h5 : y = 97
            · subst h5
              cases u with
              | nil => exact ⟨fun n t h => (by cases h), fun t h hn => by rw [show refM [97] = .error [] from rfl] at h; injection h with h; exact absurd h.symm hn⟩
              | cons x v =>
                by_cases h6 : x = 109
                · subst h6
                  exact ⟨fun n t h => isM_app_ok (a := [109, 112, 59]) (n := 38) (r := 109 :: v) z h, fun t h hn => isM_app_no (a := [109, 112, 59]) (n := 38) (r := 109 :: v) z h hn⟩
                · have hh : (x :: v).head? ≠ some 109 := by intro e; injection e with e; exact h6 e
                  have hh2 : (x :: v ++ z).head? ≠ some 109 := hh
                  rw [List.cons_append, refM_a hh, refM_a hh2]
                  exact ⟨fun n t h => isM_app_ok z h, fun t h hn => isM_app_no z h hn⟩
            · have k1 : (y :: u).head? ≠ some 35 := by intro e; injection e with e; exact h1 e
              have k2 : (y :: u).head? ≠ some 108 := by intro e; injection e with e; exact h2 e
              have k3 : (y :: u).head? ≠ some 103 := by intro e; injection e with e; exact h3 e
              have k4 : (y :: u).head? ≠ some 113 := by intro e; injection e with e; exact h4 e
              have k5 : (y :: u).head? ≠ some 97 := by intro e; injection e with e; exact h5 e
              rw [refM_none k1 k2 k3 k4 k5, refM_none (r := y :: u ++ z) k1 k2 k3 k4 k5]
              exact ⟨fun n t h => (by cases h), fun t h hn => by injection h with h; rw [← h]⟩
theorem nlL_app {t : Bs} (z : Bs) (h : t ≠ []) : nlL (t ++ z) = nlL t ++ z := by
  cases t with
  | nil => exact absurd rfl h
  | cons y u =>
    by_cases hy : y = 10
    · subst hy
      rfl
    · rw [List.cons_append]
      unfold nlL
      split
      · rename_i e; injection e with e; exact absurd e hy
      · split
        · rename_i e; injection e with e; exact absurd e hy
        · rfl
end Go.Proofs.YtmdbjoebcolcfaaDoor.Ppa
namespace Go.Proofs.YtmdbjoebcolcfaaDoor.Ppa
open Go Go.Lib Go.Proofs.YtmdbjoebcolcfaaDoor.Ptr Go.Proofs.YtmdbjoebcolcfaaDoor.Wps

/-- a result, with more behind it -/
def moreR {α : Type} (z : Bs) : Except Bs (Bs × α) → Except Bs (Bs × α)
  | .ok (r, s) => .ok (r ++ z, s)
  | .error r => .error (r ++ z)
/-- it does not end at the end -/
def inner {α : Type} : Except Bs (Bs × α) → Prop
  | .ok (r, _) => r ≠ []
  | .error r => r ≠ []
/-- an error does not stand at the end -/
def innerE {α : Type} : Except Bs (Bs × α) → Prop
  | .ok _ => True
  | .error r => r ≠ []
theorem valF_app (q : UInt8) (z : Bs) (j : Nat) : ∀ (f : Nat) (acc r : Bs), (∀ v t, valF q f acc r = some (.ok (v, t)) → valF q (f + j) acc (r ++ z) = some (.ok (v, t ++ z))) ∧ (∀ t, valF q f acc r = some (.error t) → t ≠ [] → valF q (f + j) acc (r ++ z) = some (.error (t ++ z)))
  | 0, acc, r => ⟨fun v t h => (by cases h), fun t h => (by cases h)⟩
  | f + 1, acc, [] => ⟨fun v t h => (by rw [valF] at h; cases h), fun t h hn => by rw [valF] at h; injection h with h; injection h with h; exact absurd h.symm hn⟩
  | f + 1, acc, x :: u => by
    rw [show f + 1 + j = f + j + 1 by omega, List.cons_append, valF, valF]
    split
    · exact ⟨fun v t h => (by injection h with h; injection h with h; injection h with h1 h2; subst h1 h2; rfl), fun t h => (by cases h)⟩
    · split
      · exact ⟨fun v t h => (by cases h), fun t h _ => (by injection h with h; injection h with h; rw [← h]; rfl)⟩
      · split
        · have hr := refM_app (r := u) z
          cases hm : refM u with
          | ok p =>
            obtain ⟨n, t'⟩ := p
            rw [hr.1 n t' hm]
            exact valF_app q z j f _ t'
          | error t' =>
            refine ⟨fun v t h => (by cases h), fun t h hn => ?_⟩
            injection h with h
            injection h with h
            subst h
            rw [hr.2 t' hm hn]
        · split
          · by_cases hu : u = []
            · subst hu
              cases f with
              | zero => exact ⟨fun v t h => (by cases h), fun t h => (by cases h)⟩
              | succ f => exact ⟨fun v t h => (by rw [show nlL [] = [] from rfl, valF] at h; cases h), fun t h hn => by rw [show nlL [] = [] from rfl, valF] at h; injection h with h; injection h with h; exact absurd h.symm hn⟩
            · rw [nlL_app z hu]
              exact valF_app q z j f _ _
          · split
            · exact valF_app q z j f _ u
            · exact valF_app q z j f _ u
theorem valM_eq (x : UInt8) (u : Bs) : valM (x :: u) = if x = 34 ∨ x = 39 then (match valF x (u.length + 1) [] u with | some o => o | none => Except.error []) else Except.error (x :: u) := rfl
theorem valM_app {r : Bs} (z : Bs) : (∀ v t, valM r = .ok (v, t) → valM (r ++ z) = .ok (v, t ++ z)) ∧ (∀ t, valM r = .error t → t ≠ [] → valM (r ++ z) = .error (t ++ z)) := by
  cases r with
  | nil => exact ⟨fun v t h => (by cases h), fun t h hn => by rw [show valM [] = .error [] from rfl] at h; injection h with h; exact absurd h.symm hn⟩
  | cons x u =>
    rw [List.cons_append, valM_eq, valM_eq]
    split
    · obtain ⟨o, ho⟩ := valF_some x (u.length + 1) [] u (by omega)
      have hv := valF_app x z z.length (u.length + 1) [] u
      rw [show (u ++ z).length + 1 = u.length + 1 + z.length by rw [List.length_append]; omega]
      rw [ho] at hv ⊢
      cases o with
      | ok p =>
        obtain ⟨v, t⟩ := p
        rw [hv.1 v t rfl]
        exact ⟨fun v' t' h => (by injection h with h; injection h with h1 h2; subst h1 h2; rfl), fun t' h => (by cases h)⟩
      | error t =>
        refine ⟨fun v' t' h => (by cases h), fun t' h hn => ?_⟩
        injection h with h
        subst h
        rw [hv.2 t rfl hn]
    · exact ⟨fun v t h => (by cases h), fun t h _ => (by injection h with h; rw [← h]; rfl)⟩
theorem instrM_app {p : Int} {r : Bs} {s : St} (z : Bs) (ht : Pch.textsL r = true) (h : innerE (instrM p r s)) : instrM p (r ++ z) s = moreR z (instrM p r s) := by
  cases hn : nameM r with
  | error r1 =>
    have e : instrM p r s = .error r1 := by unfold instrM; rw [hn]
    rw [e] at h ⊢
    unfold instrM
    rw [nameM_app_no z ht hn h]
    rfl
  | ok q =>
    obtain ⟨nm, r1⟩ := q
    by_cases h0 : r1 = []
    · subst h0
      have e : instrM p r s = .error [] := by
        unfold instrM
        rw [hn]
        dsimp only
        split <;> rfl
      rw [e] at h
      exact absurd rfl h
    · obtain ⟨x, u, rfl⟩ : ∃ x u, r1 = x :: u := by
        cases r1 with
        | nil => exact absurd rfl h0
        | cons x u => exact ⟨x, u, rfl⟩
      unfold instrM at h ⊢
      rw [nameM_app_ok z ht hn h0]
      rw [hn] at h ⊢
      dsimp only at h ⊢
      rw [List.cons_append]
      split
      · rfl
      · rename_i hx
        rw [if_neg hx] at h
        dsimp only at h ⊢
        split
        · rename_i hb
          rw [if_pos hb] at h
          by_cases hbl : blanksL (x :: u) = []
          · rw [hbl] at h
            exact absurd rfl h
          · rw [← List.cons_append, blanksL_app z (x :: u) hbl]
            cases hu : untilR [63, 62] (blanksL (x :: u)) with
            | error r2 =>
              rw [hu] at h
              exact absurd (untilR_err hu) h
            | ok q2 =>
              obtain ⟨v, r2⟩ := q2
              rw [untilR_app_ok z hu (by simp)]
              rfl
        · rename_i hb
          rw [if_neg hb] at h
          split
          · rename_i h63
            rw [if_pos h63] at h
            cases hu : mustL [63, 62] (x :: u) with
            | error r2 =>
              rw [hu] at h
              rw [← List.cons_append, mustL_app_no z _ _ _ hu h]
              rfl
            | ok r2 =>
              rw [← List.cons_append, mustL_app_ok z _ _ _ hu]
              rfl
          · rfl
theorem commM_app {p : Int} {r : Bs} {s : St} (z : Bs) (h : innerE (commM p r s)) : commM p (r ++ z) s = moreR z (commM p r s) := by
  unfold commM at h ⊢
  cases hn : mustL [45] r with
  | error r1 =>
    rw [hn] at h
    rw [mustL_app_no z _ _ _ hn h]
    rfl
  | ok r1 =>
    rw [hn] at h
    rw [mustL_app_ok z _ _ _ hn]
    dsimp only at h ⊢
    cases hu : untilR [45, 45] r1 with
    | error r2 =>
      rw [hu] at h
      exact absurd (untilR_err hu) h
    | ok q =>
      obtain ⟨v, r2⟩ := q
      rw [hu] at h
      rw [untilR_app_ok z hu (by simp)]
      dsimp only at h ⊢
      cases hm : mustL [62] r2 with
      | error r3 =>
        rw [hm] at h
        rw [mustL_app_no z _ _ _ hm h]
        rfl
      | ok r3 =>
        rw [mustL_app_ok z _ _ _ hm]
        rfl
theorem attrM_app {N q : Nat} {r : Bs} {s : St} (z : Bs) (ht : Pch.textsL r = true) (h : innerE (attrM N q r s)) : attrM (N + z.length) q (r ++ z) s = moreR z (attrM N q r s) := by
  have hpos : ((N + z.length : Nat) : Int) - (r ++ z).length = (N : Int) - r.length := by rw [List.length_append]; omega
  unfold attrM at h ⊢
  cases hn : nameM r with
  | error r1 =>
    rw [hn] at h
    rw [nameM_app_no z ht hn h]
    rfl
  | ok q1 =>
    obtain ⟨nm, r1⟩ := q1
    rw [hn] at h
    dsimp only at h
    by_cases h0 : blanksL r1 = []
    · rw [h0] at h
      exact absurd rfl h
    · have h1 : r1 ≠ [] := by intro e; rw [e] at h0; exact h0 rfl
      rw [nameM_app_ok z ht hn h1]
      dsimp only
      rw [blanksL_app z r1 h0]
      cases hm : mustL [61] (blanksL r1) with
      | error r2 =>
        rw [hm] at h
        rw [mustL_app_no z _ _ _ hm h]
        rfl
      | ok r2 =>
        rw [hm] at h
        rw [mustL_app_ok z _ _ _ hm]
        dsimp only at h ⊢
        by_cases h2 : blanksL r2 = []
        · rw [h2] at h
          exact absurd rfl h
        · rw [blanksL_app z r2 h2]
          cases hv : valM (blanksL r2) with
          | error r3 =>
            rw [hv] at h
            rw [(valM_app z).2 r3 hv h]
            rfl
          | ok q3 =>
            obtain ⟨v, r3⟩ := q3
            rw [(valM_app z).1 v r3 hv]
            dsimp only [moreR]
            rw [hpos]
theorem againF_app_ok (z : Bs) : ∀ (f : Nat) (n r t : Bs), Pch.textsL r = true → againF f n r = .ok t → againF f n (r ++ z) = .ok (t ++ z)
  | 0, n, r, t, _, h => by injection h with h; rw [h]; rfl
  | f + 1, n, r, t, hr, h => by
    unfold againF at h ⊢
    split at h
    · rename_i hn
      rw [if_pos hn]
      injection h with h
      rw [h]
    · rename_i hn
      rw [if_neg hn]
      split at h
      · rename_i hp
        have hne := peek_ne0 hn hp
        rw [peek_app z hne hr, if_pos hp, skip_app z hne hr]
        exact againF_app_ok z f (skip n) (skip r) t (texts_step hne hr).2.2 h
      · cases h
theorem againF_app_no (z : Bs) : ∀ (f : Nat) (n r t : Bs), Pch.textsL r = true → againF f n r = .error t → t ≠ [] → againF f n (r ++ z) = .error (t ++ z)
  | 0, n, r, t, _, h, _ => by cases h
  | f + 1, n, r, t, hr, h, ht => by
    unfold againF at h ⊢
    split at h
    · cases h
    · rename_i hn
      rw [if_neg hn]
      split at h
      · rename_i hp
        have hne := peek_ne0 hn hp
        rw [peek_app z hne hr, if_pos hp, skip_app z hne hr]
        exact againF_app_no z f (skip n) (skip r) t (texts_step hne hr).2.2 h ht
      · rename_i hp
        injection h with h
        subst h
        rw [peek_app z ht hr, if_neg hp]
theorem closeM_app_ok {nm r t : Bs} (z : Bs) (hr : Pch.textsL r = true) (h : closeM nm r = .ok t) : closeM nm (r ++ z) = .ok (t ++ z) := by
  unfold closeM at h ⊢
  cases ha : againL nm r with
  | error r5 => rw [ha] at h; cases h
  | ok r5 =>
    rw [ha] at h
    dsimp only at h
    have h1 : againL nm (r ++ z) = .ok (r5 ++ z) := againF_app_ok z _ nm r r5 hr ha
    rw [h1]
    dsimp only
    by_cases hb : blanksL r5 = []
    · rw [hb] at h; cases h
    · rw [blanksL_app z r5 hb]
      exact mustL_app_ok z _ _ _ h
theorem closeM_app_no {nm r t : Bs} (z : Bs) (hr : Pch.textsL r = true) (h : closeM nm r = .error t) (hn : t ≠ []) : closeM nm (r ++ z) = .error (t ++ z) := by
  unfold closeM at h ⊢
  cases ha : againL nm r with
  | error r5 =>
    rw [ha] at h
    injection h with h
    subst h
    have h1 : againL nm (r ++ z) = .error (r5 ++ z) := againF_app_no z _ nm r r5 hr ha hn
    rw [h1]
  | ok r5 =>
    rw [ha] at h
    dsimp only at h
    have h1 : againL nm (r ++ z) = .ok (r5 ++ z) := againF_app_ok z _ nm r r5 hr ha
    rw [h1]
    dsimp only
    by_cases hb : blanksL r5 = []
    · rw [hb] at h
      injection h with h
      exact absurd h.symm hn
    · rw [blanksL_app z r5 hb]
      exact mustL_app_no z _ _ _ h hn
theorem attrsF_app {N q : Nat} (z : Bs) (j : Nat) : ∀ (f : Nat) (r : Bs) (s : St) (o : Except Bs (Bs × St)), Pch.textsL r = true → attrsF N q f r s = some o → inner o → attrsF (N + z.length) q (f + j) (r ++ z) s = some (moreR z o)
  | 0, r, s, o, _, h, _ => by cases h
  | f + 1, r, s, o, ht, h, hi => by
    rw [show f + 1 + j = f + j + 1 by omega]
    cases hb : blankH r with
    | false =>
      rw [attrs_stop hb] at h
      injection h with h
      subst h
      have hne : r ≠ [] := hi
      have hb2 : blankH (r ++ z) = false := by
        cases r with
        | nil => exact absurd rfl hne
        | cons y u => exact hb
      rw [attrs_stop hb2]
      rfl
    | true =>
      have hb2 : blankH (r ++ z) = true := by
        cases r with
        | nil => cases hb
        | cons y u => exact hb
      have htb := blanksL_texts ht
      by_cases h0 : blanksL r = []
      · rw [attrs_more hb (by rw [h0]; simp) (by rw [h0]; simp), h0] at h
        rw [show attrM N q [] s = .error [] from rfl] at h
        injection h with h
        subst h
        exact absurd rfl hi
      · have hba := blanksL_app z r h0
        by_cases h47 : (blanksL r).head? = some 47
        · obtain ⟨u, hu⟩ := head_cons h47
          rw [attrs_end hb hu (.inl rfl)] at h
          injection h with h
          subst h
          rw [attrs_end hb2 (u := u ++ z) (by rw [hba, hu]; rfl) (.inl rfl)]
          rfl
        · by_cases h62 : (blanksL r).head? = some 62
          · obtain ⟨u, hu⟩ := head_cons h62
            rw [attrs_end hb hu (.inr rfl)] at h
            injection h with h
            subst h
            rw [attrs_end hb2 (u := u ++ z) (by rw [hba, hu]; rfl) (.inr rfl)]
            rfl
          · rw [attrs_more hb h47 h62] at h
            rw [attrs_more hb2 (by rw [hba, head_app z h0]; exact h47) (by rw [hba, head_app z h0]; exact h62), hba]
            cases ha : attrM N q (blanksL r) s with
            | error r2 =>
              rw [ha] at h
              injection h with h
              subst h
              rw [attrM_app z htb (by rw [ha]; exact hi), ha]
              rfl
            | ok q2 =>
              obtain ⟨r2, s2⟩ := q2
              rw [ha] at h
              rw [attrM_app z htb (by rw [ha]; trivial), ha]
              exact attrsF_app z j f r2 s2 o ((attrM_ok ha).2.2.1 htb) h hi
theorem elemS_app (N : Nat) (p : Int) (d : Nat) (r nm z : Bs) (s : St) : elemS (N + z.length) p d (r ++ z) nm s = elemS N p d r nm s := by
  have hpos : ((N + z.length : Nat) : Int) - (r ++ z).length - 1 = (N : Int) - r.length - 1 := by rw [List.length_append]; omega
  unfold elemS
  rw [hpos]
/-- an end of a right text -/
def Tx (r : Bs) : Prop := ∃ r0, Pch.textsL r0 = true ∧ r <:+ r0
theorem Tx.suf {r t : Bs} (h : Tx r) (hs : t <:+ r) : Tx t := by
  obtain ⟨r0, h1, h2⟩ := h
  exact ⟨r0, h1, hs.trans h2⟩
theorem Tx.low {x : UInt8} {t : Bs} (h : Tx (x :: t)) (hx : x.toNat < 128) : Pch.textsL t = true := by
  obtain ⟨r0, h1, h2⟩ := h
  exact texts_tail h1 h2 hx
theorem Tx.of {r : Bs} (h : Pch.textsL r = true) : Tx r := ⟨r, h, List.suffix_refl _⟩
structure Kx (N : Nat) (z : Bs) (j f : Nat) : Prop where
  cont : ∀ (p : Int) (d run : Nat) (r : Bs) (s : St) (o : Except Bs (Bs × St)), 0 ≤ p → Tx r → contF N f p d run r s = some o → innerE o → contF (N + z.length) (f + j) p d run (r ++ z) s = some (moreR z o)
  mark : ∀ (p : Int) (d : Nat) (r : Bs) (s : St) (o : Except Bs (Bs × St)), Pch.textsL r = true → markF N f p d r s = some o → innerE o → markF (N + z.length) (f + j) p d (r ++ z) s = some (moreR z o)
  elem : ∀ (p : Int) (d : Nat) (r : Bs) (s : St) (o : Except Bs (Bs × St)), Pch.textsL r = true → elemF N f p d r s = some o → innerE o → elemF (N + z.length) (f + j) p d (r ++ z) s = some (moreR z o)
theorem kx_cont {N j f : Nat} {z : Bs} (ih : Kx N z j f) (p : Int) (d run : Nat) (r : Bs) (s : St) (o : Except Bs (Bs × St)) (hp : 0 ≤ p) (ht : Tx r) (h : contF N (f + 1) p d run r s = some o) (hi : innerE o) : contF (N + z.length) (f + 1 + j) p d run (r ++ z) s = some (moreR z o) := by
  rw [show f + 1 + j = f + j + 1 by omega]
  cases r with
  | nil =>
    rw [cont_lack (by omega)] at h
    injection h with h
    subst h
    exact absurd rfl hi
  | cons x t =>
    have hxt : t <:+ x :: t := List.suffix_cons _ _
    rw [List.cons_append]
    by_cases hbad : x = 62 ∧ 2 ≤ run
    · obtain ⟨rfl, hr⟩ := hbad
      rw [cont_bad hr] at h
      injection h with h
      subst h
      rw [cont_bad hr]
      rfl
    · by_cases h60 : x = 60
      · subst h60
        by_cases hc : 0 ≤ p ∧ t.head? = some 47
        · obtain ⟨_, hc⟩ := hc
          obtain ⟨u, rfl⟩ := head_cons hc
          rw [cont_close hp] at h
          injection h with h
          subst h
          rw [List.cons_append, cont_close hp]
          rfl
        · have htt := ht.low (by decide)
          rw [cont_mark hc] at h
          cases hm : markF N f p d t s with
          | none => rw [hm] at h; cases h
          | some om =>
            rw [hm] at h
            have hcz : t ≠ [] → ¬ (0 ≤ p ∧ (t ++ z).head? = some 47) := fun h0 e => hc ⟨hp, by rw [← head_app z h0]; exact e.2⟩
            have hmi : innerE om → t ≠ [] := by
              rintro h1 rfl
              cases f with
              | zero => unfold markF at hm; cases hm
              | succ f =>
                rw [mark_elem (by simp) (by simp)] at hm
                cases f with
                | zero => unfold elemF at hm; cases hm
                | succ f =>
                  rw [elemF_eq, show nameM [] = .error [] from rfl] at hm
                  injection hm with hm
                  subst hm
                  exact h1 rfl
            cases om with
            | error r1 =>
              injection h with h
              subst h
              have h0 := hmi hi
              rw [cont_mark (hcz h0), ih.mark p d t s _ htt hm hi]
              rfl
            | ok q =>
              obtain ⟨r1, s1⟩ := q
              have h0 := hmi trivial
              have hk := (kc_all N f).mark p d t s r1 s1 hm
              rw [cont_mark (hcz h0), ih.mark p d t s _ htt hm trivial]
              exact ih.cont p d 0 r1 s1 o hp (Tx.of (hk.2.2 htt)) h hi
      · by_cases h38 : x = 38
        · subst h38
          rw [cont_ref] at h ⊢
          cases hr : refM t with
          | error r1 =>
            rw [hr] at h
            injection h with h
            subst h
            rw [(refM_app z).2 r1 hr hi]
            rfl
          | ok q =>
            obtain ⟨n, r1⟩ := q
            rw [hr] at h
            rw [(refM_app z).1 n r1 hr]
            exact ih.cont p d 0 r1 _ o hp (ht.suf ((refM_suf hr).trans hxt)) h hi
        · by_cases h13 : x = 13
          · subst h13
            rw [cont_cr] at h ⊢
            by_cases h0 : t = []
            · subst h0
              cases f with
              | zero => unfold contF at h; cases h
              | succ f =>
                rw [show nlL [] = [] from rfl, cont_lack (by omega)] at h
                injection h with h
                subst h
                exact absurd rfl hi
            · rw [nlL_app z h0]
              exact ih.cont p d 0 _ _ o hp (ht.suf ((nlL_suf t).trans hxt)) h hi
          · rw [cont_char hbad h60 h38 h13] at h ⊢
            exact ih.cont p d _ t _ o hp (ht.suf hxt) h hi
theorem kx_mark {N j f : Nat} {z : Bs} (ih : Kx N z j f) (p : Int) (d : Nat) (r : Bs) (s : St) (o : Except Bs (Bs × St)) (ht : Pch.textsL r = true) (h : markF N (f + 1) p d r s = some o) (hi : innerE o) : markF (N + z.length) (f + 1 + j) p d (r ++ z) s = some (moreR z o) := by
  rw [show f + 1 + j = f + j + 1 by omega]
  by_cases h63 : r.head? = some 63
  · obtain ⟨t, rfl⟩ := head_cons h63
    rw [mark_instr] at h
    injection h with h
    subst h
    rw [List.cons_append, mark_instr, instrM_app z (texts_low (by decide) ht) hi]
  · by_cases h33 : r.head? = some 33
    · obtain ⟨t, rfl⟩ := head_cons h33
      have ht1 := texts_low (by decide) ht
      by_cases h45 : t.head? = some 45
      · obtain ⟨u, rfl⟩ := head_cons h45
        rw [mark_comm] at h
        injection h with h
        subst h
        rw [List.cons_append, List.cons_append, mark_comm, commM_app z hi]
      · rw [mark_cdata h45] at h
        injection h with h
        subst h
        have h0 : t ≠ [] := by
          rintro rfl
          exact hi rfl
        rw [List.cons_append, mark_cdata (by rw [head_app z h0]; exact h45)]
        unfold cdataM at hi ⊢
        cases hm : mustL [91, 67, 68, 65, 84, 65, 91] t with
        | error r1 =>
          rw [hm] at hi
          rw [mustL_app_no z _ _ _ hm hi]
          rfl
        | ok r1 =>
          rw [hm] at hi
          rw [mustL_app_ok z _ _ _ hm]
          dsimp only at hi ⊢
          cases hu : untilR [93, 93, 62] r1 with
          | error r2 =>
            rw [hu] at hi
            exact absurd (untilR_err hu) hi
          | ok q =>
            obtain ⟨v, r2⟩ := q
            rw [untilR_app_ok z hu (by simp)]
            rfl
    · rw [mark_elem h63 h33] at h
      have h0 : r ≠ [] := by
        rintro rfl
        cases f with
        | zero => unfold elemF at h; cases h
        | succ f =>
          rw [elemF_eq, show nameM [] = .error [] from rfl] at h
          injection h with h
          subst h
          exact hi rfl
      rw [mark_elem (by rw [head_app z h0]; exact h63) (by rw [head_app z h0]; exact h33)]
      exact ih.elem p (d + 1) r s o ht h hi
end Go.Proofs.YtmdbjoebcolcfaaDoor.Ppa
namespace Go.Proofs.YtmdbjoebcolcfaaDoor.Ppa
open Go Go.Lib Go.Proofs.YtmdbjoebcolcfaaDoor.Ptr Go.Proofs.YtmdbjoebcolcfaaDoor.Wps

theorem elem_tail (N f : Nat) (p : Int) (d : Nat) (r : Bs) (s : St) : elemF N (f + 1) p d r s = match nameM r with
    | .error r1 => some (.error r1)
    | .ok (nm, r1) => match attrsF N (elemS N p d r nm s).nodes.length.pred (f + 1) r1 (elemS N p d r nm s) with
      | none => none
      | some oA => tailM N f nm (elemS N p d r nm s).nodes.length.pred d oA := by
  rw [elemF_eq]
  cases nameM r with
  | error r1 => rfl
  | ok q =>
    obtain ⟨nm, r1⟩ := q
    dsimp only
    generalize elemS N p d r nm s = S
    generalize attrsF N S.nodes.length.pred (f + 1) r1 S = oo
    cases oo with
    | none => rfl
    | some oA =>
      cases oA with
      | error r2 => rfl
      | ok q2 =>
        obtain ⟨r2, s2⟩ := q2
        by_cases h47 : ∃ t, r2 = 47 :: t
        · obtain ⟨t, rfl⟩ := h47
          rfl
        · unfold tailM
          refine (match47 h47 _ _).trans ?_
          symm
          exact match47 h47 _ _
theorem tail_app {N j f : Nat} {z : Bs} (ih : Kx N z j f) (nm : Bs) (q d : Nat) (r2 : Bs) (s2 : St) (o : Except Bs (Bs × St)) (ht : Pch.textsL r2 = true) (h : tailM N f nm q d (.ok (r2, s2)) = some o) (hi : innerE o) : tailM (N + z.length) (f + j) nm q d (.ok (r2 ++ z, s2)) = some (moreR z o) := by
  by_cases h47 : r2.head? = some 47
  · obtain ⟨t, rfl⟩ := head_cons h47
    rw [tail_slash] at h
    injection h with h
    subst h
    rw [List.cons_append, tail_slash]
    cases hm : mustL [62] t with
    | error r3 =>
      rw [hm] at hi
      rw [mustL_app_no z _ _ _ hm hi]
      rfl
    | ok r3 =>
      rw [mustL_app_ok z _ _ _ hm]
      rfl
  · have h0 : r2 ≠ [] := by
      rintro rfl
      rw [tail_no (by simp) (show mustL [62] [] = .error [] from rfl)] at h
      injection h with h
      subst h
      exact hi rfl
    have h47z : (r2 ++ z).head? ≠ some 47 := by rw [head_app z h0]; exact h47
    cases hm : mustL [62] r2 with
    | error r3 =>
      rw [tail_no h47 hm] at h
      injection h with h
      subst h
      rw [tail_no h47z (mustL_app_no z _ _ _ hm hi)]
      rfl
    | ok r3 =>
      have t3 := mustL_texts _ _ _ (by decide) ht hm
      rw [tail_cont h47 hm] at h
      rw [tail_cont h47z (mustL_app_ok z _ _ _ hm)]
      cases hc : contF N f (q : Int) d 0 r3 s2 with
      | none => rw [hc] at h; cases h
      | some oc =>
        rw [hc] at h
        cases oc with
        | error r4 =>
          injection h with h
          subst h
          rw [ih.cont q d 0 r3 s2 _ (by omega) (Tx.of t3) hc hi]
          rfl
        | ok q4 =>
          obtain ⟨r4, s4⟩ := q4
          rw [ih.cont q d 0 r3 s2 _ (by omega) (Tx.of t3) hc trivial]
          have t4 : Pch.textsL r4 = true := by
            rcases ((kc_all N f).cont _ _ _ _ _ _ _ hc).2.2 with ⟨h5, _⟩ | ⟨_, h5⟩
            · exfalso; omega
            · exact texts_tail t3 h5 (by decide)
          injection h with h
          subst h
          dsimp only [moreR]
          cases hcl : closeM nm r4 with
          | error r6 =>
            rw [hcl] at hi
            rw [closeM_app_no z t4 hcl hi]
          | ok r6 => rw [closeM_app_ok z t4 hcl]
theorem kx_elem {N j f : Nat} {z : Bs} (ih : Kx N z j f) (p : Int) (d : Nat) (r : Bs) (s : St) (o : Except Bs (Bs × St)) (ht : Pch.textsL r = true) (h : elemF N (f + 1) p d r s = some o) (hi : innerE o) : elemF (N + z.length) (f + 1 + j) p d (r ++ z) s = some (moreR z o) := by
  rw [show f + 1 + j = f + j + 1 by omega]
  rw [elem_tail] at h ⊢
  cases hn : nameM r with
  | error r1 =>
    rw [hn] at h
    injection h with h
    subst h
    rw [nameM_app_no z ht hn hi]
    rfl
  | ok q =>
    obtain ⟨nm, r1⟩ := q
    rw [hn] at h
    dsimp only at h
    have t1 := (nameM_ok hn).2.2 ht
    have hS := elemS_app N p d r nm z s
    generalize elemS N p d r nm s = S at h hS
    cases ha : attrsF N S.nodes.length.pred (f + 1) r1 S with
    | none => rw [ha] at h; cases h
    | some oA =>
      rw [ha] at h
      dsimp only at h
      have hin : inner oA := by
        cases oA with
        | error r2 =>
          injection h with h
          subst h
          exact hi
        | ok q2 =>
          obtain ⟨r2, s2⟩ := q2
          rintro rfl
          rw [tail_no (by simp) (show mustL [62] [] = .error [] from rfl)] at h
          injection h with h
          subst h
          exact hi rfl
      have h0 : r1 ≠ [] := by
        rintro rfl
        rw [attrs_stop rfl] at ha
        injection ha with ha
        subst ha
        exact hin rfl
      rw [nameM_app_ok z ht hn h0]
      dsimp only
      rw [hS]
      have hat := attrsF_app z j (f + 1) r1 S oA t1 ha hin
      rw [show f + 1 + j = f + j + 1 by omega] at hat
      rw [hat]
      cases oA with
      | error r2 =>
        injection h with h
        subst h
        rfl
      | ok q2 =>
        obtain ⟨r2, s2⟩ := q2
        exact tail_app ih nm _ d r2 s2 o ((attrsF_ok _ _ _ _ _ ha).2.2.1 t1) h hi
theorem kx_all (N : Nat) (z : Bs) (j : Nat) : ∀ f, Kx N z j f
  | 0 => ⟨fun p d run r s o _ _ h => (by unfold contF at h; cases h), fun p d r s o _ h => (by unfold markF at h; cases h), fun p d r s o _ h => (by unfold elemF at h; cases h)⟩
  | f + 1 => ⟨kx_cont (kx_all N z j f), kx_mark (kx_all N z j f), kx_elem (kx_all N z j f)⟩
/-- a fault of shape stands, whatever follows -/
theorem docF_app_no {N : Nat} (z : Bs) (j : Nat) : ∀ (f : Nat) (done : Bool) (r : Bs) (s : St) (t : Bs), Pch.textsL r = true → docF N f done r s = some (.error t) → t ≠ [] → docF (N + z.length) (f + j) done (r ++ z) s = some (.error (t ++ z))
  | 0, done, r, s, t, _, h, _ => by rw [docF] at h; cases h
  | f + 1, done, r, s, t, ht, h, hn => by
    rw [show f + 1 + j = f + j + 1 by omega]
    by_cases h0 : blanksL r = []
    · rw [docF_nil h0] at h
      split at h
      · cases h
      · injection h with h
        injection h with h
        exact absurd h.symm hn
    · have hba := blanksL_app z r h0
      have htb := blanksL_texts ht
      by_cases h60 : (blanksL r).head? = some 60
      · obtain ⟨u, hu⟩ := head_cons h60
        rw [hu] at htb
        have htu := texts_low (by decide) htb
        have hbz : blanksL (r ++ z) = 60 :: (u ++ z) := by rw [hba, hu]; rfl
        by_cases h63 : u.head? = some 63
        · obtain ⟨v, rfl⟩ := head_cons h63
          have htv := texts_low (by decide) htu
          rw [docF_pi hu] at h
          rw [docF_pi (t := v ++ z) (by rw [hbz]; rfl)]
          cases hi : instrM 0 v s with
          | error r' =>
            rw [hi] at h
            injection h with h
            injection h with h
            subst h
            rw [instrM_app z htv (by rw [hi]; exact hn), hi]
            rfl
          | ok q =>
            obtain ⟨r', s'⟩ := q
            rw [hi] at h
            rw [instrM_app z htv (by rw [hi]; trivial), hi]
            exact docF_app_no z j f done r' s' t ((instrM_ok hi).2.2 htv) h hn
        · by_cases h33 : u.head? = some 33
          · obtain ⟨v, rfl⟩ := head_cons h33
            have htv := texts_low (by decide) htu
            rw [docF_bang hu] at h
            rw [docF_bang (t := v ++ z) (by rw [hbz]; rfl)]
            cases hm : mustL [45] v with
            | error r' =>
              rw [hm] at h
              injection h with h
              injection h with h
              subst h
              rw [mustL_app_no z _ _ _ hm hn]
            | ok r1 =>
              rw [hm] at h
              rw [mustL_app_ok z _ _ _ hm]
              dsimp only at h ⊢
              have ht1 := mustL_texts _ _ _ (by decide) htv hm
              cases hi : commM 0 r1 s with
              | error r' =>
                rw [hi] at h
                injection h with h
                injection h with h
                subst h
                rw [commM_app z (by rw [hi]; exact hn), hi]
                rfl
              | ok q =>
                obtain ⟨r', s'⟩ := q
                rw [hi] at h
                rw [commM_app z (by rw [hi]; trivial), hi]
                exact docF_app_no z j f done r' s' t ((commM_ok hi).2.2 ht1) h hn
          · rw [docF_elem hu h63 h33] at h
            have hu0 : u ≠ [] := by
              rintro rfl
              split at h
              · injection h with h
                injection h with h
                exact hn h.symm
              · cases f with
                | zero => rw [show elemF N 0 0 1 [] s = none by unfold elemF; rfl] at h; cases h
                | succ f =>
                  rw [elem_tail, show nameM [] = .error [] from rfl] at h
                  injection h with h
                  injection h with h
                  exact hn h.symm
            rw [docF_elem hbz (by rw [head_app z hu0]; exact h63) (by rw [head_app z hu0]; exact h33)]
            split at h
            · rename_i hd
              rw [if_pos hd]
              injection h with h
              injection h with h
              rw [h]
            · rename_i hd
              rw [if_neg hd]
              cases ho : elemF N f 0 1 u s with
              | none => rw [ho] at h; cases h
              | some o =>
                rw [ho] at h
                cases o with
                | error r' =>
                  injection h with h
                  injection h with h
                  subst h
                  rw [(kx_all N z j f).elem 0 1 u s _ htu ho hn]
                  rfl
                | ok q =>
                  obtain ⟨r', s'⟩ := q
                  rw [(kx_all N z j f).elem 0 1 u s _ htu ho trivial]
                  exact docF_app_no z j f true r' s' t (((kc_all N f).elem 0 1 u s r' s' ho).2.2 htu) h hn
      · rw [docF_bad h0 h60] at h
        injection h with h
        injection h with h
        subst h
        rw [docF_bad (by rw [hba]; simp [h0]) (by rw [hba, head_app z h0]; exact h60), hba]
end Go.Proofs.YtmdbjoebcolcfaaDoor.Ppa
namespace Go.Proofs.YtmdbjoebcolcfaaDoor.Ppa
open Go Go.Lib Go.Proofs.YtmdbjoebcolcfaaDoor.Ptr Go.Proofs.YtmdbjoebcolcfaaDoor.Wps

theorem quotG_app_ok (z : Bs) : ∀ (a r t : Bs), quotG a r = .ok t → quotG a (r ++ z) = .ok (t ++ z)
  | [], r, t, h => by injection h with h; rw [h]; rfl
  | c :: a, [], t, h => by cases h
  | c :: a, x :: u, t, h => by
    rw [List.cons_append]
    rw [quotG] at h ⊢
    split at h
    · rename_i e
      rw [if_pos e]
      exact quotG_app_ok z a u t h
    · cases h
theorem quotG_app_no (z : Bs) : ∀ (a r t : Bs), quotG a r = .error t → t ≠ [] → quotG a (r ++ z) = .error (t ++ z)
  | [], r, t, h, _ => by cases h
  | c :: a, [], t, h, hn => by rw [quotG] at h; injection h with h; exact absurd h.symm hn
  | c :: a, x :: u, t, h, hn => by
    rw [List.cons_append]
    rw [quotG] at h ⊢
    split at h
    · rename_i e
      rw [if_pos e]
      exact quotG_app_no z a u t h hn
    · rename_i e
      injection h with h
      rw [if_neg e, ← h]
      rfl
theorem quotE_app_ok {q : UInt8} {a r t : Bs} (z : Bs) (h : quotE q a r = .ok t) : quotE q a (r ++ z) = .ok (t ++ z) := by
  unfold quotE at h ⊢
  cases hg : quotG a r with
  | error r2 => rw [hg] at h; cases h
  | ok r2 =>
    rw [hg] at h
    rw [quotG_app_ok z a r r2 hg]
    exact mustL_app_ok z _ _ _ h
theorem quotE_app_no {q : UInt8} {a r t : Bs} (z : Bs) (h : quotE q a r = .error t) (hn : t ≠ []) : quotE q a (r ++ z) = .error (t ++ z) := by
  unfold quotE at h ⊢
  cases hg : quotG a r with
  | error r2 =>
    rw [hg] at h
    injection h with h
    subst h
    rw [quotG_app_no z a r r2 hg hn]
  | ok r2 =>
    rw [hg] at h
    rw [quotG_app_ok z a r r2 hg]
    exact mustL_app_no z _ _ _ h hn
theorem quotM_app {a r : Bs} (z : Bs) : (∀ t, quotM a r = .ok t → quotM a (r ++ z) = .ok (t ++ z)) ∧ (∀ t, quotM a r = .error t → t ≠ [] → quotM a (r ++ z) = .error (t ++ z)) := by
  by_cases h0 : blanksL r = []
  · have e : quotM a r = .error [] := by unfold quotM; rw [h0]; rfl
    rw [e]
    exact ⟨fun t h => (by cases h), fun t h hn => by injection h with h; exact absurd h.symm hn⟩
  · have hba := blanksL_app z r h0
    cases h1 : mustL [61] (blanksL r) with
    | error r1 =>
      have e : quotM a r = .error r1 := by unfold quotM; rw [h1]
      rw [e]
      refine ⟨fun t h => (by cases h), fun t h hn => ?_⟩
      injection h with h
      subst h
      unfold quotM
      rw [hba, mustL_app_no z _ _ _ h1 hn]
    | ok r1 =>
      have h1z : mustL [61] (blanksL (r ++ z)) = .ok (r1 ++ z) := by rw [hba]; exact mustL_app_ok z _ _ _ h1
      by_cases h2 : blanksL r1 = []
      · have e : quotM a r = .error [] := by rw [quotM_none h1 (by rw [h2]; simp) (by rw [h2]; simp), h2]
        rw [e]
        exact ⟨fun t h => (by cases h), fun t h hn => by injection h with h; exact absurd h.symm hn⟩
      · have hb2 := blanksL_app z r1 h2
        by_cases h34 : (blanksL r1).head? = some 34
        · obtain ⟨u, hu⟩ := head_cons h34
          rw [quotM_some h1 hu (.inl rfl), quotM_some (q := 34) (t := u ++ z) h1z (by rw [hb2, hu]; rfl) (.inl rfl)]
          exact ⟨fun t h => quotE_app_ok z h, fun t h hn => quotE_app_no z h hn⟩
        · by_cases h39 : (blanksL r1).head? = some 39
          · obtain ⟨u, hu⟩ := head_cons h39
            rw [quotM_some h1 hu (.inr rfl), quotM_some (q := 39) (t := u ++ z) h1z (by rw [hb2, hu]; rfl) (.inr rfl)]
            exact ⟨fun t h => quotE_app_ok z h, fun t h hn => quotE_app_no z h hn⟩
          · rw [quotM_none h1 h34 h39, quotM_none h1z (by rw [hb2, head_app z h2]; exact h34) (by rw [hb2, head_app z h2]; exact h39), hb2]
            exact ⟨fun t h => (by cases h), fun t h _ => by injection h with h; rw [h]⟩
theorem declM_eq (r : Bs) : declM r = match mustL [118, 101, 114, 115, 105, 111, 110] (blanksL r) with
  | .error r1 => .error r1
  | .ok r1 => match quotM [49, 46, 48] r1 with
    | .error r2 => .error r2
    | .ok r2 =>
      if blankH r2 = true ∧ (blanksL r2).head? = some 101 then
        (match mustL [101, 110, 99, 111, 100, 105, 110, 103] (blanksL r2) with
          | .error r3 => .error r3
          | .ok r3 => match quotM [117, 116, 102, 45, 56] r3 with
            | .error r4 => .error r4
            | .ok r4 => mustL [63, 62] (blanksL r4))
      else mustL [63, 62] (blanksL r2) := rfl
/-- a fixed word behind blanks -/
theorem mustB_app {a r : Bs} (z : Bs) (ha : a ≠ []) : (∀ t, mustL a (blanksL r) = .ok t → mustL a (blanksL (r ++ z)) = .ok (t ++ z)) ∧ (∀ t, mustL a (blanksL r) = .error t → t ≠ [] → mustL a (blanksL (r ++ z)) = .error (t ++ z)) := by
  by_cases h0 : blanksL r = []
  · have e : mustL a (blanksL r) = .error [] := by
      rw [h0]
      cases a with
      | nil => exact absurd rfl ha
      | cons c a => rfl
    rw [e]
    exact ⟨fun t h => (by cases h), fun t h hn => by injection h with h; exact absurd h.symm hn⟩
  · rw [blanksL_app z r h0]
    exact ⟨fun t h => mustL_app_ok z _ _ _ h, fun t h hn => mustL_app_no z _ _ _ h hn⟩
theorem declM_app {r : Bs} (z : Bs) : (∀ t, declM r = .ok t → declM (r ++ z) = .ok (t ++ z)) ∧ (∀ t, declM r = .error t → t ≠ [] → declM (r ++ z) = .error (t ++ z)) := by
  rw [declM_eq, declM_eq]
  have b1 := mustB_app (a := [118, 101, 114, 115, 105, 111, 110]) (r := r) z (by simp)
  cases h1 : mustL [118, 101, 114, 115, 105, 111, 110] (blanksL r) with
  | error r1 =>
    refine ⟨fun t h => (by cases h), fun t h hn => ?_⟩
    injection h with h
    subst h
    rw [b1.2 _ h1 hn]
  | ok r1 =>
    rw [b1.1 _ h1]
    dsimp only
    have b2 := quotM_app (a := [49, 46, 48]) (r := r1) z
    cases h2 : quotM [49, 46, 48] r1 with
    | error r2 =>
      refine ⟨fun t h => (by cases h), fun t h hn => ?_⟩
      injection h with h
      subst h
      rw [b2.2 _ h2 hn]
    | ok r2 =>
      rw [b2.1 _ h2]
      dsimp only
      by_cases h0 : blanksL r2 = []
      · rw [h0, if_neg (by simp)]
        exact ⟨fun t h => (by cases h), fun t h hn => by rw [show mustL [63, 62] [] = .error [] from rfl] at h; injection h with h; exact absurd h.symm hn⟩
      · have hbz := blanksL_app z r2 h0
        have hne : r2 ≠ [] := by intro e; rw [e] at h0; exact h0 rfl
        have hH : blankH (r2 ++ z) = blankH r2 := by
          cases r2 with
          | nil => exact absurd rfl hne
          | cons y u => rfl
        rw [hH, hbz, head_app z h0]
        split
        · cases h3 : mustL [101, 110, 99, 111, 100, 105, 110, 103] (blanksL r2) with
          | error r3 =>
            refine ⟨fun t h => (by cases h), fun t h hn => ?_⟩
            injection h with h
            subst h
            rw [mustL_app_no z _ _ _ h3 hn]
          | ok r3 =>
            rw [mustL_app_ok z _ _ _ h3]
            dsimp only
            have b4 := quotM_app (a := [117, 116, 102, 45, 56]) (r := r3) z
            cases h4 : quotM [117, 116, 102, 45, 56] r3 with
            | error r4 =>
              refine ⟨fun t h => (by cases h), fun t h hn => ?_⟩
              injection h with h
              subst h
              rw [b4.2 _ h4 hn]
            | ok r4 =>
              rw [b4.1 _ h4]
              exact mustB_app z (by simp)
        · exact ⟨fun t h => mustL_app_ok z _ _ _ h, fun t h hn => mustL_app_no z _ _ _ h hn⟩
/-- a text that is a beginning of <?xml lacks something, at its end -/
theorem doc_begin {N f : Nat} {l : Bs} {t : Bs} (hl : l <+: [60, 63, 120, 109, 108]) (h : docF N f false l stR = some (.error t)) : t = [] := by
  have hc : l = [] ∨ l = [60] ∨ l = [60, 63] ∨ l = [60, 63, 120] ∨ l = [60, 63, 120, 109] ∨ l = [60, 63, 120, 109, 108] := by
    obtain ⟨u, hu⟩ := hl
    match l, hu with
    | [], _ => simp
    | [a], hu => injection hu with h1 _; simp [h1]
    | [a, b], hu => injection hu with h1 hu; injection hu with h2 _; simp [h1, h2]
    | [a, b, c], hu => injection hu with h1 hu; injection hu with h2 hu; injection hu with h3 _; simp [h1, h2, h3]
    | [a, b, c, d], hu => injection hu with h1 hu; injection hu with h2 hu; injection hu with h3 hu; injection hu with h4 _; simp [h1, h2, h3, h4]
    | [a, b, c, d, e], hu => injection hu with h1 hu; injection hu with h2 hu; injection hu with h3 hu; injection hu with h4 hu; injection hu with h5 _; simp [h1, h2, h3, h4, h5]
    | a :: b :: c :: d :: e :: g :: l, hu => exfalso; have := congrArg List.length hu; simp at this
  cases f with
  | zero => rw [docF] at h; cases h
  | succ f =>
    have pi : ∀ v : Bs, instrM 0 v stR = .error [] → blanksL (60 :: 63 :: v) = 60 :: 63 :: v → l = 60 :: 63 :: v → t = [] := by
      rintro v h1 h2 rfl
      rw [docF_pi h2, h1] at h
      injection h with h
      injection h with h
      exact h.symm
    rcases hc with rfl | rfl | rfl | rfl | rfl | rfl
    · rw [docF_nil rfl, if_neg (by decide)] at h
      injection h with h
      injection h with h
      exact h.symm
    · rw [docF_elem (t := []) rfl (by simp) (by simp), if_neg (by decide)] at h
      cases f with
      | zero => rw [show elemF N 0 0 1 [] stR = none by unfold elemF; rfl] at h; cases h
      | succ f =>
        rw [elem_tail, show nameM [] = .error [] from rfl] at h
        injection h with h
        injection h with h
        exact h.symm
    · exact pi [] rfl rfl rfl
    · exact pi [120] (by kernel_rfl) rfl rfl
    · exact pi [120, 109] (by kernel_rfl) rfl rfl
    · exact pi [120, 109, 108] (by kernel_rfl) rfl rfl
theorem docM_app_no {N f : Nat} (z : Bs) (j : Nat) {l t : Bs} (ht : Pch.textsL l = true) (h : docM N f l = some (.error t)) (hn : t ≠ []) : docM (N + z.length) (f + j) (l ++ z) = some (.error (t ++ z)) := by
  rw [docM_eq] at h ⊢
  by_cases hp : hasPrefix l xmlW = true
  · have hla := xml_app hp
    have h5 : 5 ≤ l.length := by rw [hla]; simp [xmlW]
    have hpz : hasPrefix (l ++ z) xmlW = true := by rw [pre_app z (show xmlW.length ≤ l.length from h5)]; exact hp
    rw [List.drop_append_of_le_length h5]
    by_cases h0 : l.drop 5 = []
    · rw [h0, if_neg (by rintro ⟨_, h⟩; cases h)] at h
      exfalso
      refine hn (doc_begin ?_ h)
      rw [hla, h0]
      exact List.prefix_refl _
    · have hH : blankH (l.drop 5 ++ z) = blankH (l.drop 5) := by
        cases hd : l.drop 5 with
        | nil => exact absurd hd h0
        | cons y u => rfl
      rw [hH, hpz]
      rw [hp] at h
      split at h
      · rename_i hc
        rw [if_pos hc]
        have b := declM_app (r := l.drop 5) z
        cases hd : declM (l.drop 5) with
        | error r1 =>
          rw [hd] at h
          injection h with h
          injection h with h
          subst h
          rw [b.2 _ hd hn]
        | ok r1 =>
          rw [hd] at h
          rw [b.1 _ hd]
          have t5 : Pch.textsL (l.drop 5) = true := by
            rw [hla] at ht
            exact texts_lit xmlW _ (by decide) ht
          exact docF_app_no z j f false r1 stR t ((declM_ok hd).2 t5) h hn
      · rename_i hc
        rw [if_neg hc]
        exact docF_app_no z j f false l stR t ht h hn
  · rw [if_neg (fun h => hp h.1)] at h
    by_cases hpz : hasPrefix (l ++ z) xmlW = true
    · exfalso
      refine hn (doc_begin ?_ h)
      have h1 : xmlW <+: l ++ z := List.isPrefixOf_iff_prefix.1 hpz
      rcases Nat.lt_or_ge l.length 5 with h5 | h5
      · exact List.prefix_of_prefix_length_le (List.prefix_append l z) h1 (by show l.length ≤ 5; omega)
      · exact absurd (by rw [pre_app z (show xmlW.length ≤ l.length from h5)] at hpz; exact hpz) hp
    · rw [if_neg (fun h => hpz h.1)]
      exact docF_app_no z j f false l stR t ht h hn
end Go.Proofs.YtmdbjoebcolcfaaDoor.Ppa
namespace Go.Proofs.YtmdbjoebcolcfaaDoor.Ppa
open Go Go.Lib Go.Proofs.YtmdbjoebcolcfaaDoor.Ptr Go.Proofs.YtmdbjoebcolcfaaDoor.Wps

/-- an end, at a character -/
def Er (r t : Bs) : Prop := t <:+ r ∧ (Pch.textsL r = true → Pch.textsL t = true)
theorem Er.refl (r : Bs) : Er r r := ⟨List.suffix_refl _, id⟩
theorem Er.nil (r : Bs) : Er r [] := ⟨List.nil_suffix, fun _ => rfl⟩
theorem Er.trans {a b c : Bs} (h : Er a b) (k : Er b c) : Er a c := ⟨k.1.trans h.1, fun t => k.2 (h.2 t)⟩
theorem Er.low {x : UInt8} (t : Bs) (hx : x.toNat < 128) : Er (x :: t) t := ⟨List.suffix_cons _ _, texts_low hx⟩
theorem er_must_ok {a r t : Bs} (ha : ∀ c ∈ a, c.toNat < 128) (h : mustL a r = .ok t) : Er r t := ⟨mustL_suf h, fun ht => mustL_texts _ _ _ ha ht h⟩
theorem er_must : ∀ (a r t : Bs), (∀ c ∈ a, c.toNat < 128) → mustL a r = .error t → Er r t
  | [], r, t, _, h => by cases h
  | c :: a, [], t, _, h => by injection h with h; rw [← h]; exact Er.refl _
  | c :: a, x :: u, t, ha, h => by
    unfold mustL at h
    split at h
    · rename_i e
      exact (Er.low u (by rw [e]; exact ha c (by simp))).trans (er_must a u t (fun z hz => ha z (by simp [hz])) h)
    · injection h with h
      rw [← h]
      exact Er.refl _
theorem er_blanks (r : Bs) : Er r (blanksL r) := ⟨blanksL_suf r, blanksL_texts⟩
theorem nameF_er : ∀ (f k : Nat) (r : Bs) (m : Nat), nameF f k r = .error m → k ≤ m ∧ (Pch.textsL r = true → Pch.textsL (r.drop (m - k)) = true)
  | 0, k, r, m, h => by cases h
  | f + 1, k, r, m, h => by
    unfold nameF at h
    split at h
    · rename_i hb
      have hne := name_ne hb
      split at h
      · injection h with h
        subst h
        exact ⟨Nat.le_refl _, fun h => by rw [Nat.sub_self, List.drop_zero]; exact h⟩
      · obtain ⟨h1, h2⟩ := nameF_er f _ _ m h
        refine ⟨by omega, fun ht => ?_⟩
        have h4 := h2 (texts_step hne ht).2.2
        unfold skip at h4
        rw [List.drop_drop, show (decodeL r).2 + (m - (k + (decodeL r).2)) = m - k by omega] at h4
        exact h4
    · cases h
theorem er_name {r t : Bs} (h : nameM r = .error t) : Er r t := by
  unfold nameM at h
  split at h
  · cases hk : nameF r.length 0 r with
    | ok k => rw [hk] at h; cases h
    | error k =>
      rw [hk] at h
      injection h with h
      subst h
      refine ⟨List.drop_suffix _ _, fun ht => ?_⟩
      have := (nameF_er _ _ _ _ hk).2 ht
      rw [Nat.sub_zero] at this
      exact this
  · injection h with h
    rw [h]
    exact Er.refl _
theorem er_name_ok {r nm t : Bs} (h : nameM r = .ok (nm, t)) : Er r t := ⟨nameM_suf h, (nameM_ok h).2.2⟩
theorem er_until {e r t : Bs} (h : untilR e r = .error t) : Er r t := by rw [untilR_err h]; exact Er.nil _
theorem er_until_ok {e r v t : Bs} (h : untilR e r = .ok (v, t)) (he : e ≠ []) (hl : ∀ c ∈ e, c.toNat < 128) : Er r t := ⟨untilR_suf h, untilR_texts h he hl⟩
theorem er_num {hex : Bool} : ∀ (r : Bs) (n : Nat) (any : Bool) (t : Bs), numG hex n any r = .error t → Er r t
  | [], n, any, t, h => by rw [numG] at h; injection h with h; rw [← h]; exact Er.refl _
  | y :: u, n, any, t, h => by
    cases hd : digO hex (y :: u) with
    | some d =>
      have hlow := digO_low hd
      rw [numG_more hd] at h
      generalize n * (if hex = true then 16 else 10) + d = q at h
      split at h
      · injection h with h; rw [← h]; exact Er.refl _
      · exact (Er.low u hlow).trans (er_num u _ true t h)
    | none =>
      rw [numG_end hd] at h
      split at h
      · injection h with h; rw [← h]; exact Er.refl _
      · cases h
theorem er_is {a r t : Bs} {n : Nat} (ha : ∀ c ∈ a, c.toNat < 128) (h : isM a n r = .error t) : Er r t := by
  unfold isM at h
  cases hm : mustL a r with
  | ok u => rw [hm] at h; cases h
  | error u =>
    rw [hm] at h
    injection h with h
    subst h
    exact er_must _ _ _ ha hm
theorem er_ref {r t : Bs} (h : refM r = .error t) : Er r t := by
  by_cases h1 : r.head? = some 35
  · obtain ⟨u, rfl⟩ := head_cons h1
    rw [refM_num] at h
    refine (Er.low u (by decide)).trans ?_
    by_cases hx : u.head? = some 120
    · obtain ⟨v, rfl⟩ := head_cons hx
      exact (Er.low v (by decide)).trans (er_num v 0 false t h)
    · rw [numM_dec hx] at h
      exact er_num u 0 false t h
  · by_cases h2 : r.head? = some 108
    · obtain ⟨u, rfl⟩ := head_cons h2
      rw [refM_l] at h
      exact er_is (by decide) h
    · by_cases h3 : r.head? = some 103
      · obtain ⟨u, rfl⟩ := head_cons h3
        rw [refM_g] at h
        exact er_is (by decide) h
      · by_cases h4 : r.head? = some 113
        · obtain ⟨u, rfl⟩ := head_cons h4
          rw [refM_q] at h
          exact er_is (by decide) h
        · by_cases h5 : r.head? = some 97
          · obtain ⟨u, rfl⟩ := head_cons h5
            by_cases h6 : u.head? = some 109
            · obtain ⟨v, rfl⟩ := head_cons h6
              rw [refM_am] at h
              exact (Er.low (109 :: v) (by decide)).trans (er_is (by decide) h)
            · rw [refM_a h6] at h
              exact (Er.low u (by decide)).trans (er_is (by decide) h)
          · rw [refM_none h1 h2 h3 h4 h5] at h
            injection h with h
            rw [h]
            exact Er.refl _
/-- the same for an end of a right text -/
def Et (r t : Bs) : Prop := t <:+ r ∧ (Tx r → Pch.textsL t = true)
theorem Et.nil (r : Bs) : Et r [] := ⟨List.nil_suffix, fun _ => rfl⟩
theorem Et.suf {a b c : Bs} (h : b <:+ a) (k : Et b c) : Et a c := ⟨k.1.trans h, fun t => k.2 (t.suf h)⟩
theorem Et.er {r t : Bs} (h : Et r t) : Er r t := ⟨h.1, fun ht => h.2 (Tx.of ht)⟩
theorem Er.et {x : UInt8} {u t : Bs} (hx : x.toNat < 128) (h : Er u t) : Et (x :: u) t := ⟨h.1.trans (List.suffix_cons _ _), fun ht => h.2 (ht.low hx)⟩
theorem Et.here {x : UInt8} {u : Bs} (hx : x.toNat < 128) : Et (x :: u) (x :: u) := ⟨List.suffix_refl _, fun ht => by
  obtain ⟨r0, h1, h2⟩ := ht
  exact texts_suf h1 h2 hx⟩
theorem er_valF (q : UInt8) : ∀ (f : Nat) (acc r t : Bs), valF q f acc r = some (.error t) → Et r t
  | 0, _, _, _, h => by cases h
  | f + 1, acc, [], t, h => by rw [valF] at h; injection h with h; injection h with h; rw [← h]; exact Et.nil _
  | f + 1, acc, x :: u, t, h => by
    rw [valF] at h
    split at h
    · cases h
    · split at h
      · rename_i h60
        injection h with h
        injection h with h
        rw [← h]
        exact Et.here (by rw [h60]; decide)
      · split at h
        · rename_i h38
          cases hr : refM u with
          | ok p =>
            obtain ⟨n, t'⟩ := p
            rw [hr] at h
            exact Et.suf ((refM_suf hr).trans (List.suffix_cons _ _)) (er_valF q f _ t' t h)
          | error t' =>
            rw [hr] at h
            injection h with h
            injection h with h
            subst h
            exact Er.et (by rw [h38]; decide) (er_ref hr)
        · split at h
          · exact Et.suf ((nlL_suf u).trans (List.suffix_cons _ _)) (er_valF q f _ _ t h)
          · split at h
            · exact Et.suf (List.suffix_cons _ _) (er_valF q f _ u t h)
            · exact Et.suf (List.suffix_cons _ _) (er_valF q f _ u t h)
theorem er_val {r t : Bs} (h : valM r = .error t) : Er r t := by
  cases r with
  | nil => rw [show valM [] = .error [] from rfl] at h; injection h with h; rw [← h]; exact Er.refl _
  | cons x u =>
    rw [valM_eq] at h
    split at h
    · rename_i hx
      obtain ⟨o, ho⟩ := valF_some x (u.length + 1) [] u (by omega)
      rw [ho] at h
      dsimp only at h
      subst h
      exact (Er.low u (by rcases hx with rfl | rfl <;> decide)).trans (er_valF x _ _ u t ho).er
    · injection h with h
      rw [← h]
      exact Er.refl _
theorem er_val_ok {r v t : Bs} (h : valM r = .ok (v, t)) : Er r t := ⟨valM_suf h, valM_texts h⟩
theorem er_instr {p : Int} {r t : Bs} {s : St} (h : instrM p r s = .error t) : Er r t := by
  unfold instrM at h
  cases hn : nameM r with
  | error r1 =>
    rw [hn] at h
    injection h with h
    subst h
    exact er_name hn
  | ok q =>
    obtain ⟨nm, r1⟩ := q
    rw [hn] at h
    dsimp only at h
    have e1 := er_name_ok hn
    split at h
    · injection h with h
      subst h
      exact e1
    · cases r1 with
      | nil => injection h with h; rw [← h]; exact e1
      | cons x u =>
        dsimp only at h
        split at h
        · cases hu : untilR [63, 62] (blanksL (x :: u)) with
          | error r2 =>
            rw [hu] at h
            injection h with h
            rw [← h, untilR_err hu]
            exact Er.nil _
          | ok q2 => rw [hu] at h; cases h
        · split at h
          · cases hu : mustL [63, 62] (x :: u) with
            | error r2 =>
              rw [hu] at h
              injection h with h
              subst h
              exact e1.trans (er_must _ _ _ low2 hu)
            | ok r2 => rw [hu] at h; cases h
          · injection h with h
            rw [← h]
            exact e1
theorem er_comm {p : Int} {r t : Bs} {s : St} (h : commM p r s = .error t) : Er r t := by
  unfold commM at h
  cases hn : mustL [45] r with
  | error r1 =>
    rw [hn] at h
    injection h with h
    subst h
    exact er_must _ _ _ (by decide) hn
  | ok r1 =>
    rw [hn] at h
    dsimp only at h
    cases hu : untilR [45, 45] r1 with
    | error r2 =>
      rw [hu] at h
      injection h with h
      rw [← h, untilR_err hu]
      exact Er.nil _
    | ok q =>
      obtain ⟨v, r2⟩ := q
      rw [hu] at h
      dsimp only at h
      cases hm : mustL [62] r2 with
      | error r3 =>
        rw [hm] at h
        injection h with h
        subst h
        exact ((er_must_ok (by decide) hn).trans (er_until_ok hu (by simp) (by decide))).trans (er_must _ _ _ (by decide) hm)
      | ok r3 => rw [hm] at h; cases h
theorem er_attr {N q : Nat} {r t : Bs} {s : St} (h : attrM N q r s = .error t) : Er r t := by
  unfold attrM at h
  cases hn : nameM r with
  | error r1 =>
    rw [hn] at h
    injection h with h
    subst h
    exact er_name hn
  | ok q1 =>
    obtain ⟨nm, r1⟩ := q1
    rw [hn] at h
    dsimp only at h
    have e1 := (er_name_ok hn).trans (er_blanks r1)
    cases hm : mustL [61] (blanksL r1) with
    | error r2 =>
      rw [hm] at h
      injection h with h
      subst h
      exact e1.trans (er_must _ _ _ (by decide) hm)
    | ok r2 =>
      rw [hm] at h
      dsimp only at h
      have e2 := (e1.trans (er_must_ok (by decide) hm)).trans (er_blanks r2)
      cases hv : valM (blanksL r2) with
      | error r3 =>
        rw [hv] at h
        injection h with h
        subst h
        exact e2.trans (er_val hv)
      | ok q3 => rw [hv] at h; cases h
theorem er_attrs {N q : Nat} : ∀ (f : Nat) (r : Bs) (s : St) (t : Bs), attrsF N q f r s = some (.error t) → Er r t
  | 0, r, s, t, h => by cases h
  | f + 1, [], s, t, h => by rw [attrsF] at h; cases h
  | f + 1, x :: u, s, t, h => by
    rw [attrsF] at h
    split at h
    · have e1 := er_blanks (x :: u)
      generalize blanksL (x :: u) = z at h e1
      split at h
      · cases h
      · cases h
      · cases ha : attrM N q z s with
        | error r2 =>
          rw [ha] at h
          injection h with h
          injection h with h
          subst h
          exact e1.trans (er_attr ha)
        | ok q2 =>
          obtain ⟨r2, s2⟩ := q2
          rw [ha] at h
          obtain ⟨a1, _, a3, _⟩ := attrM_ok ha
          exact (e1.trans ⟨a1, a3⟩).trans (er_attrs f r2 s2 t h)
    · cases h
theorem er_again : ∀ (f : Nat) (n r t : Bs), againF f n r = .error t → Er r t
  | 0, n, r, t, h => by cases h
  | f + 1, n, r, t, h => by
    unfold againF at h
    split at h
    · cases h
    · rename_i hn
      split at h
      · rename_i hp
        have hne := peek_ne0 hn hp
        exact Er.trans ⟨List.drop_suffix _ _, fun ht => (texts_step hne ht).2.2⟩ (er_again f _ _ t h)
      · injection h with h
        rw [h]
        exact Er.refl _
theorem er_close {nm r t : Bs} (h : closeM nm r = .error t) : Er r t := by
  unfold closeM at h
  cases ha : againL nm r with
  | error r5 =>
    rw [ha] at h
    injection h with h
    subst h
    exact er_again _ _ _ _ ha
  | ok r5 =>
    rw [ha] at h
    dsimp only at h
    exact (Er.trans ⟨againF_suf _ _ _ _ ha, fun ht => againF_texts _ _ _ _ ht ha⟩ (er_blanks r5)).trans (er_must _ _ _ (by decide) h)
structure Ke (N f : Nat) : Prop where
  cont : ∀ (p : Int) (d run : Nat) (r : Bs) (s : St) (t : Bs), contF N f p d run r s = some (.error t) → Et r t
  mark : ∀ (p : Int) (d : Nat) (r : Bs) (s : St) (t : Bs), markF N f p d r s = some (.error t) → Er r t
  elem : ∀ (p : Int) (d : Nat) (r : Bs) (s : St) (t : Bs), elemF N f p d r s = some (.error t) → Er r t
theorem ke_cont {N f : Nat} (ih : Ke N f) (p : Int) (d run : Nat) (r : Bs) (s : St) (t : Bs) (h : contF N (f + 1) p d run r s = some (.error t)) : Et r t := by
  cases r with
  | nil =>
    by_cases hp : p < 0
    · rw [cont_end hp] at h; cases h
    · rw [cont_lack hp] at h
      injection h with h
      injection h with h
      rw [← h]
      exact Et.nil _
  | cons x u =>
    have hxt : u <:+ x :: u := List.suffix_cons _ _
    by_cases hbad : x = 62 ∧ 2 ≤ run
    · obtain ⟨rfl, hr⟩ := hbad
      rw [cont_bad hr] at h
      injection h with h
      injection h with h
      rw [← h]
      exact Et.here (by decide)
    · by_cases h60 : x = 60
      · subst h60
        by_cases hc : 0 ≤ p ∧ u.head? = some 47
        · obtain ⟨hp, hc⟩ := hc
          obtain ⟨v, rfl⟩ := head_cons hc
          rw [cont_close hp] at h
          cases h
        · rw [cont_mark hc] at h
          cases hm : markF N f p d u s with
          | none => rw [hm] at h; cases h
          | some om =>
            rw [hm] at h
            cases om with
            | error r1 =>
              injection h with h
              injection h with h
              subst h
              exact Er.et (by decide) (ih.mark p d u s _ hm)
            | ok q =>
              obtain ⟨r1, s1⟩ := q
              exact Et.suf (((kc_all N f).mark p d u s r1 s1 hm).1.trans hxt) (ih.cont p d 0 r1 s1 t h)
      · by_cases h38 : x = 38
        · subst h38
          rw [cont_ref] at h
          cases hr : refM u with
          | error r1 =>
            rw [hr] at h
            injection h with h
            injection h with h
            subst h
            exact Er.et (by decide) (er_ref hr)
          | ok q =>
            obtain ⟨n, r1⟩ := q
            rw [hr] at h
            exact Et.suf ((refM_suf hr).trans hxt) (ih.cont p d 0 r1 _ t h)
        · by_cases h13 : x = 13
          · subst h13
            rw [cont_cr] at h
            exact Et.suf ((nlL_suf u).trans hxt) (ih.cont p d 0 _ _ t h)
          · rw [cont_char hbad h60 h38 h13] at h
            exact Et.suf hxt (ih.cont p d _ u _ t h)
theorem ke_mark {N f : Nat} (ih : Ke N f) (p : Int) (d : Nat) (r : Bs) (s : St) (t : Bs) (h : markF N (f + 1) p d r s = some (.error t)) : Er r t := by
  by_cases h63 : r.head? = some 63
  · obtain ⟨u, rfl⟩ := head_cons h63
    rw [mark_instr] at h
    injection h with h
    exact (Er.low u (by decide)).trans (er_instr h)
  · by_cases h33 : r.head? = some 33
    · obtain ⟨u, rfl⟩ := head_cons h33
      refine (Er.low u (by decide)).trans ?_
      by_cases h45 : u.head? = some 45
      · obtain ⟨v, rfl⟩ := head_cons h45
        rw [mark_comm] at h
        injection h with h
        exact (Er.low v (by decide)).trans (er_comm h)
      · rw [mark_cdata h45] at h
        injection h with h
        unfold cdataM at h
        cases hm : mustL [91, 67, 68, 65, 84, 65, 91] u with
        | error r1 =>
          rw [hm] at h
          injection h with h
          subst h
          exact er_must _ _ _ (by decide) hm
        | ok r1 =>
          rw [hm] at h
          dsimp only at h
          cases hu : untilR [93, 93, 62] r1 with
          | error r2 =>
            rw [hu] at h
            injection h with h
            rw [← h, untilR_err hu]
            exact Er.nil _
          | ok q =>
            rw [hu] at h
            cases h
    · rw [mark_elem h63 h33] at h
      exact ih.elem p (d + 1) r s t h
theorem ke_elem {N f : Nat} (ih : Ke N f) (p : Int) (d : Nat) (r : Bs) (s : St) (t : Bs) (h : elemF N (f + 1) p d r s = some (.error t)) : Er r t := by
  rw [elem_tail] at h
  cases hn : nameM r with
  | error r1 =>
    rw [hn] at h
    injection h with h
    injection h with h
    subst h
    exact er_name hn
  | ok q =>
    obtain ⟨nm, r1⟩ := q
    rw [hn] at h
    dsimp only at h
    have e1 := er_name_ok hn
    generalize elemS N p d r nm s = S at h
    cases ha : attrsF N S.nodes.length.pred (f + 1) r1 S with
    | none => rw [ha] at h; cases h
    | some oA =>
      rw [ha] at h
      dsimp only at h
      cases oA with
      | error r2 =>
        injection h with h
        injection h with h
        subst h
        exact e1.trans (er_attrs _ _ _ _ ha)
      | ok q2 =>
        obtain ⟨r2, s2⟩ := q2
        obtain ⟨a1, _, a3, _⟩ := attrsF_ok _ _ _ _ _ ha
        have e2 := e1.trans ⟨a1, a3⟩
        by_cases h47 : r2.head? = some 47
        · obtain ⟨u, rfl⟩ := head_cons h47
          rw [tail_slash] at h
          injection h with h
          cases hm : mustL [62] u with
          | error r3 =>
            rw [hm] at h
            injection h with h
            subst h
            exact (e2.trans (Er.low u (by decide))).trans (er_must _ _ _ (by decide) hm)
          | ok r3 => rw [hm] at h; cases h
        · cases hm : mustL [62] r2 with
          | error r3 =>
            rw [tail_no h47 hm] at h
            injection h with h
            injection h with h
            subst h
            exact e2.trans (er_must _ _ _ (by decide) hm)
          | ok r3 =>
            have e3 := e2.trans (er_must_ok (by decide) hm)
            rw [tail_cont h47 hm] at h
            cases hc : contF N f (S.nodes.length.pred : Int) d 0 r3 s2 with
            | none => rw [hc] at h; cases h
            | some oc =>
              rw [hc] at h
              cases oc with
              | error r4 =>
                injection h with h
                injection h with h
                subst h
                exact e3.trans (ih.cont _ _ _ _ _ _ hc).er
              | ok q4 =>
                obtain ⟨r4, s4⟩ := q4
                injection h with h
                have hk := (kc_all N f).cont _ _ _ _ _ _ _ hc
                have e4 : Er r3 r4 := ⟨hk.1, fun t3 => by
                  rcases hk.2.2 with ⟨h5, _⟩ | ⟨_, h5⟩
                  · exfalso; omega
                  · exact texts_tail t3 h5 (by decide)⟩
                cases hcl : closeM nm r4 with
                | error r6 =>
                  rw [hcl] at h
                  injection h with h
                  subst h
                  exact (e3.trans e4).trans (er_close hcl)
                | ok r6 => rw [hcl] at h; cases h
theorem ke_all (N : Nat) : ∀ f, Ke N f
  | 0 => ⟨fun p d run r s t h => (by unfold contF at h; cases h), fun p d r s t h => (by unfold markF at h; cases h), fun p d r s t h => (by unfold elemF at h; cases h)⟩
  | f + 1 => ⟨ke_cont (ke_all N f), ke_mark (ke_all N f), ke_elem (ke_all N f)⟩
end Go.Proofs.YtmdbjoebcolcfaaDoor.Ppa
namespace Go.Proofs.YtmdbjoebcolcfaaDoor.Ppa
open Go Go.Lib Go.Proofs.YtmdbjoebcolcfaaDoor.Ptr Go.Proofs.YtmdbjoebcolcfaaDoor.Wps

theorem er_docF {N : Nat} : ∀ (f : Nat) (done : Bool) (r : Bs) (s : St) (t : Bs), docF N f done r s = some (.error t) → Er r t
  | 0, done, r, s, t, h => by rw [docF] at h; cases h
  | f + 1, done, r, s, t, h => by
    refine (er_blanks r).trans ?_
    by_cases h0 : blanksL r = []
    · rw [docF_nil h0] at h
      split at h
      · cases h
      · injection h with h
        injection h with h
        rw [← h]
        exact Er.nil _
    · by_cases h60 : (blanksL r).head? = some 60
      · obtain ⟨u, hu⟩ := head_cons h60
        have e0 : Er (blanksL r) u := by rw [hu]; exact Er.low u (by decide)
        refine e0.trans ?_
        by_cases h63 : u.head? = some 63
        · obtain ⟨v, rfl⟩ := head_cons h63
          refine (Er.low v (by decide)).trans ?_
          rw [docF_pi hu] at h
          cases hi : instrM 0 v s with
          | error r' =>
            rw [hi] at h
            injection h with h
            injection h with h
            subst h
            exact er_instr hi
          | ok q =>
            obtain ⟨r', s'⟩ := q
            rw [hi] at h
            obtain ⟨a1, _, a3⟩ := instrM_ok hi
            exact Er.trans ⟨a1, a3⟩ (er_docF f done r' s' t h)
        · by_cases h33 : u.head? = some 33
          · obtain ⟨v, rfl⟩ := head_cons h33
            refine (Er.low v (by decide)).trans ?_
            rw [docF_bang hu] at h
            cases hm : mustL [45] v with
            | error r' =>
              rw [hm] at h
              injection h with h
              injection h with h
              subst h
              exact er_must _ _ _ (by decide) hm
            | ok r1 =>
              rw [hm] at h
              dsimp only at h
              refine (er_must_ok (by decide) hm).trans ?_
              cases hi : commM 0 r1 s with
              | error r' =>
                rw [hi] at h
                injection h with h
                injection h with h
                subst h
                exact er_comm hi
              | ok q =>
                obtain ⟨r', s'⟩ := q
                rw [hi] at h
                obtain ⟨a1, _, a3⟩ := commM_ok hi
                exact Er.trans ⟨a1, a3⟩ (er_docF f done r' s' t h)
          · rw [docF_elem hu h63 h33] at h
            split at h
            · injection h with h
              injection h with h
              rw [h]
              exact Er.refl _
            · cases ho : elemF N f 0 1 u s with
              | none => rw [ho] at h; cases h
              | some o =>
                rw [ho] at h
                cases o with
                | error r' =>
                  injection h with h
                  injection h with h
                  subst h
                  exact (ke_all N f).elem 0 1 u s _ ho
                | ok q =>
                  obtain ⟨r', s'⟩ := q
                  obtain ⟨a1, _, a3⟩ := (kc_all N f).elem 0 1 u s r' s' ho
                  exact Er.trans ⟨a1, a3⟩ (er_docF f true r' s' t h)
      · rw [docF_bad h0 h60] at h
        injection h with h
        injection h with h
        rw [h]
        exact Er.refl _
theorem er_quotG : ∀ (a r t : Bs), (∀ c ∈ a, c.toNat < 128) → quotG a r = .error t → Er r t
  | [], r, t, _, h => by cases h
  | c :: a, [], t, _, h => by rw [quotG] at h; injection h with h; rw [← h]; exact Er.refl _
  | c :: a, x :: u, t, ha, h => by
    have hok := quotG_ok
    rw [quotG] at h
    split at h
    · rename_i hx
      have hc := ha c (by simp)
      have hlow : x.toNat < 128 := by
        rcases hx with rfl | ⟨h3, rfl⟩
        · exact hc
        · rw [UInt8.toNat_sub_of_le _ _ (by rw [UInt8.le_iff_toNat_le] at h3 ⊢; exact Nat.le_trans (by decide) h3)]
          omega
      exact (Er.low u hlow).trans (er_quotG a u t (fun z hz => ha z (by simp [hz])) h)
    · injection h with h
      rw [← h]
      exact Er.refl _
theorem er_quotE {q : UInt8} {a r t : Bs} (hq : q.toNat < 128) (ha : ∀ c ∈ a, c.toNat < 128) (h : quotE q a r = .error t) : Er r t := by
  unfold quotE at h
  cases hg : quotG a r with
  | error r2 =>
    rw [hg] at h
    injection h with h
    subst h
    exact er_quotG a r _ ha hg
  | ok r2 =>
    rw [hg] at h
    exact Er.trans (quotG_ok a r r2 ha hg) (er_must _ _ _ (by intro c hc; simp at hc; subst hc; exact hq) h)
theorem er_quotM {a r t : Bs} (ha : ∀ c ∈ a, c.toNat < 128) (h : quotM a r = .error t) : Er r t := by
  cases h1 : mustL [61] (blanksL r) with
  | error r1 =>
    have e : quotM a r = .error r1 := by unfold quotM; rw [h1]
    rw [e] at h
    injection h with h
    subst h
    exact (er_blanks r).trans (er_must _ _ _ (by decide) h1)
  | ok r1 =>
    have e1 := ((er_blanks r).trans (er_must_ok (by decide) h1)).trans (er_blanks r1)
    by_cases h34 : (blanksL r1).head? = some 34
    · obtain ⟨u, hu⟩ := head_cons h34
      rw [quotM_some h1 hu (.inl rfl)] at h
      rw [hu] at e1
      exact (e1.trans (Er.low u (by decide))).trans (er_quotE (by decide) ha h)
    · by_cases h39 : (blanksL r1).head? = some 39
      · obtain ⟨u, hu⟩ := head_cons h39
        rw [quotM_some h1 hu (.inr rfl)] at h
        rw [hu] at e1
        exact (e1.trans (Er.low u (by decide))).trans (er_quotE (by decide) ha h)
      · rw [quotM_none h1 h34 h39] at h
        injection h with h
        rw [← h]
        exact e1
theorem er_decl {r t : Bs} (h : declM r = .error t) : Er r t := by
  rw [declM_eq] at h
  cases h1 : mustL [118, 101, 114, 115, 105, 111, 110] (blanksL r) with
  | error r1 =>
    rw [h1] at h
    injection h with h
    subst h
    exact (er_blanks r).trans (er_must _ _ _ (by decide) h1)
  | ok r1 =>
    rw [h1] at h
    dsimp only at h
    have e1 := (er_blanks r).trans (er_must_ok (by decide) h1)
    cases h2 : quotM [49, 46, 48] r1 with
    | error r2 =>
      rw [h2] at h
      injection h with h
      subst h
      exact e1.trans (er_quotM (by decide) h2)
    | ok r2 =>
      rw [h2] at h
      dsimp only at h
      have e2 := (e1.trans (quotM_ok (by decide) h2)).trans (er_blanks r2)
      split at h
      · cases h3 : mustL [101, 110, 99, 111, 100, 105, 110, 103] (blanksL r2) with
        | error r3 =>
          rw [h3] at h
          injection h with h
          subst h
          exact e2.trans (er_must _ _ _ (by decide) h3)
        | ok r3 =>
          rw [h3] at h
          dsimp only at h
          have e3 := e2.trans (er_must_ok (by decide) h3)
          cases h4 : quotM [117, 116, 102, 45, 56] r3 with
          | error r4 =>
            rw [h4] at h
            injection h with h
            subst h
            exact e3.trans (er_quotM (by decide) h4)
          | ok r4 =>
            rw [h4] at h
            exact ((e3.trans (quotM_ok (by decide) h4)).trans (er_blanks r4)).trans (er_must _ _ _ (by decide) h)
      · exact e2.trans (er_must _ _ _ (by decide) h)
theorem er_docM {N f : Nat} {l t : Bs} (h : docM N f l = some (.error t)) : Er l t := by
  rw [docM_eq] at h
  split at h
  · rename_i hc
    have hx := xml_app hc.1
    have e0 : Er l (l.drop 5) := ⟨List.drop_suffix _ _, fun ht => by rw [hx] at ht; exact texts_lit xmlW _ (by decide) ht⟩
    cases hd : declM (l.drop 5) with
    | error r =>
      rw [hd] at h
      injection h with h
      injection h with h
      subst h
      exact e0.trans (er_decl hd)
    | ok r =>
      rw [hd] at h
      exact (e0.trans (declM_ok hd)).trans (er_docF _ _ _ _ _ h)
  · exact er_docF _ _ _ _ _ h
theorem wrongF_none : ∀ (f k : Nat) (r : Bs), Pch.textsL r = true → wrongF f k r = none
  | 0, k, r, _ => rfl
  | f + 1, k, r, h => by
    rw [wrongF]
    split
    · rfl
    · rename_i hne
      obtain ⟨h1, h2, h3⟩ := texts_step hne h
      rw [if_pos ⟨h1, h2⟩]
      exact wrongF_none f _ _ h3
theorem xml_fault {l : Bs} {L : List Nd} {a : Int} (h : documentL l = (L, 130, a)) : ∃ r, wrongL l = none ∧ docM l.length (fuel l.length) l = some (.error r) ∧ a = (l.length : Int) - r.length ∧ l.length ≤ 65536 := by
  unfold documentL allM at h
  split at h
  · injection h with _ h; injection h with h; cases h
  · rename_i hl
    split at h
    · injection h with _ h; injection h with h; cases h
    · rename_i hw
      split at h
      · rename_i o ho
        cases o with
        | error r =>
          injection h with _ h
          injection h with _ h
          exact ⟨r, hw, ho, h.symm, by omega⟩
        | ok s =>
          unfold toldM at h
          dsimp only at h
          repeat (split at h; · injection h with _ h; injection h with h; cases h)
          injection h with _ h
          injection h with h
          cases h
      · injection h with _ h; injection h with h; cases h
theorem told_ok_code (N : Nat) (s : St) : (toldM N (.ok s)).2.1 = 282 ∨ (toldM N (.ok s)).2.1 = 131 ∨ (toldM N (.ok s)).2.1 = 3 ∨ (toldM N (.ok s)).2.1 = 0 := by
  unfold toldM
  dsimp only
  split
  · exact .inl rfl
  · split
    · exact .inr (.inl rfl)
    · split
      · exact .inr (.inr (.inl rfl))
      · exact .inr (.inr (.inr rfl))
theorem cut_law {s more : Bs} (hl : s.length + more.length ≤ 6000) {L : List Nd} {a : Int} (h : documentL s = (L, 130, a)) :
    ∃ k : Nat, a = (k : Int) ∧ k ≤ s.length ∧ ((documentL (s.take k)).2 = (130, (k : Int)) ∨ (documentL (s.take k)).2.1 = 0 ∨ (documentL (s.take k)).2.1 = 282 ∨ (documentL (s.take k)).2.1 = 131 ∨ (documentL (s.take k)).2.1 = 3) ∧ (k = s.length ∨ (documentL (s ++ more)).2.1 = 120 ∨ (documentL (s ++ more)).2 = (130, (k : Int))) := by
  obtain ⟨r, hw, hd, rfl, _⟩ := xml_fault h
  have ht := wrongL_texts hw
  obtain ⟨e1, e2⟩ := er_docM hd
  have hrl := e1.length_le
  have htr := e2 ht
  refine ⟨s.length - r.length, by omega, by omega, ?_, ?_⟩
  · have hsp : s.take (s.length - r.length) ++ r = s := by
      have h1 := List.suffix_iff_eq_drop.1 e1
      rw [h1]
      have h2 : r.length = s.length - (s.length - r.length) := by omega
      rw [show s.length - (s.drop (s.length - r.length)).length = s.length - r.length by rw [List.length_drop]; omega]
      exact List.take_append_drop _ _
    have hk : (s.take (s.length - r.length)).length = s.length - r.length := by rw [List.length_take]; omega
    generalize hs' : s.take (s.length - r.length) = s' at hsp hk
    have ht' : Pch.textsL s' = true := by rw [← hsp, Pch.texts_right s' r htr] at ht; exact ht
    have hw' : wrongL s' = none := wrongF_none _ _ _ ht'
    obtain ⟨o, ho⟩ := docM_some s'
    have hdoc : documentL s' = toldM s'.length o := allM_told (by omega) hw' ho
    rw [hdoc]
    cases o with
    | ok st =>
      rcases told_ok_code s'.length st with h1 | h1 | h1 | h1
      · exact .inr (.inr (.inl h1))
      · exact .inr (.inr (.inr (.inl h1)))
      · exact .inr (.inr (.inr (.inr h1)))
      · exact .inr (.inl h1)
    | error r' =>
      by_cases h0 : r' = []
      · subst h0
        left
        show ((130 : Int), (s'.length : Int) - ([] : Bs).length) = _
        rw [hk]
        simp
      · exfalso
        have h1 := docM_app_no r (fuel s.length - fuel s'.length) ht' ho h0
        have hN : s'.length + r.length = s.length := by rw [hk]; omega
        have hF : fuel s'.length + (fuel s.length - fuel s'.length) = fuel s.length := by unfold fuel; omega
        rw [hN, hF, hsp, hd] at h1
        injection h1 with h1
        injection h1 with h1
        have := congrArg List.length h1
        rw [List.length_append] at this
        have := List.length_pos_iff.2 h0
        omega
  · by_cases h0 : r = []
    · subst h0
      exact .inl (by simp)
    · right
      cases hw2 : wrongL (s ++ more) with
      | some j =>
        left
        rw [show documentL (s ++ more) = ([], 120, (j : Int)) from allM_wrong (by rw [List.length_append]; omega) hw2]
      | none =>
        right
        have h1 := docM_app_no more (fuel (s ++ more).length - fuel s.length) ht hd h0
        have hN : s.length + more.length = (s ++ more).length := by rw [List.length_append]
        have hF : fuel s.length + (fuel (s ++ more).length - fuel s.length) = fuel (s ++ more).length := by unfold fuel; rw [List.length_append]; omega
        rw [hN, hF] at h1
        rw [show documentL (s ++ more) = toldM (s ++ more).length (.error (r ++ more)) from allM_told (by rw [List.length_append]; omega) hw2 h1]
        show ((130 : Int), ((s ++ more).length : Int) - (r ++ more).length) = _
        rw [List.length_append, List.length_append]
        congr 1
        omega
end Go.Proofs.YtmdbjoebcolcfaaDoor.Ppa
