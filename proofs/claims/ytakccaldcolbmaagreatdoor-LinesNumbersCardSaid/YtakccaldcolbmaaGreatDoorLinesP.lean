/- Plain: lines (chapter 31): the words of a line, texts in quotes; no program in sight. -/
import Derived.Below
namespace Go.Proofs.YtakccaldcolbmaaGreatDoor.Pln

/-- behind an opening quote: how many bytes stand ahead of the closing one; none: there is no closing one -/
def qE : List UInt8 → Option Nat
  | [] => none
  | [c] => if c = 34 then some 0 else none
  | c :: d :: r => if c = 34 then some 0 else if c = 92 then (qE r).map (· + 2) else (qE (d :: r)).map (· + 1)
theorem qE_lt : ∀ (s : List UInt8) (k : Nat), qE s = some k → k < s.length ∧ s[k]? = some 34
  | [], k, h => by cases h
  | [c], k, h => by
    unfold qE at h
    split at h
    · cases h; rename_i hc; subst hc; exact ⟨by simp, rfl⟩
    · cases h
  | c :: d :: r, k, h => by
    unfold qE at h
    split at h
    · cases h; rename_i hc; subst hc; exact ⟨by simp, rfl⟩
    · split at h
      · rw [Option.map_eq_some_iff] at h
        obtain ⟨m, hm, rfl⟩ := h
        obtain ⟨h1, h2⟩ := qE_lt r m hm
        exact ⟨by simp; omega, by simpa using h2⟩
      · rw [Option.map_eq_some_iff] at h
        obtain ⟨m, hm, rfl⟩ := h
        obtain ⟨h1, h2⟩ := qE_lt (d :: r) m hm
        exact ⟨by simp at h1 ⊢; omega, by simpa using h2⟩
/-- blanks at the end change nothing -/
theorem qE_blank : ∀ (s : List UInt8), qE (s ++ [32]) = qE s
  | [] => rfl
  | [c] => by
    show (if c = 34 then some 0 else if c = 92 then (qE []).map (· + 2) else (qE [32]).map (· + 1)) = if c = 34 then some 0 else none
    split
    · rfl
    · split
      · rfl
      · rfl
  | c :: d :: r => by
    show (if c = 34 then some 0 else if c = 92 then (qE (r ++ [32])).map (· + 2) else (qE ((d :: r) ++ [32])).map (· + 1)) = if c = 34 then some 0 else if c = 92 then (qE r).map (· + 2) else (qE (d :: r)).map (· + 1)
    rw [qE_blank r, qE_blank (d :: r)]
/-- the first word of a text that does not begin with a blank, and what is behind it; none: it is no word -/
def word1 : List UInt8 → Option (List UInt8 × List UInt8)
  | [] => none
  | c :: r => if c = 34 then (match qE r with
      | none => none
      | some k => if r.drop (k + 1) = [] ∨ (r.drop (k + 1)).head? = some 32 then some (c :: r.take (k + 1), r.drop (k + 1)) else none)
    else some (c :: r.takeWhile (· != 32), r.dropWhile (· != 32))
theorem word1_cons (c : UInt8) (r : List UInt8) : word1 (c :: r) = if c = 34 then (match qE r with
      | none => none
      | some k => if r.drop (k + 1) = [] ∨ (r.drop (k + 1)).head? = some 32 then some (c :: r.take (k + 1), r.drop (k + 1)) else none)
    else some (c :: r.takeWhile (· != 32), r.dropWhile (· != 32)) := rfl
theorem word1_len {s w t : List UInt8} (h : word1 s = some (w, t)) : w ++ t = s ∧ w ≠ [] := by
  cases s with
  | nil => cases h
  | cons c r =>
    rw [word1_cons] at h
    split at h
    · cases hq : qE r with
      | none => rw [hq] at h; cases h
      | some k =>
        rw [hq] at h
        simp only at h
        split at h
        · cases h
          exact ⟨by rw [List.cons_append, List.take_append_drop], by simp⟩
        · cases h
    · cases h
      exact ⟨by rw [List.cons_append, List.takeWhile_append_dropWhile], by simp⟩
/-- the words of a line; none: one is none -/
def wordsF : Nat → List UInt8 → Option (List (List UInt8))
  | 0, _ => some []
  | f + 1, s => match s.dropWhile (· == 32) with
    | [] => some []
    | c :: r => (match word1 (c :: r) with
      | none => none
      | some (w, t) => (wordsF f t).map (w :: ·))
def wordsL (s : List UInt8) : Option (List (List UInt8)) := wordsF s.length s
theorem drop_len (s : List UInt8) : (s.dropWhile (· == 32)).length ≤ s.length := by
  have h := congrArg List.length (List.takeWhile_append_dropWhile (p := fun x : UInt8 => x == 32) (l := s))
  rw [List.length_append] at h
  omega
theorem wordsF_fuel : ∀ (f g : Nat) (s : List UInt8), s.length ≤ f → s.length ≤ g → wordsF f s = wordsF g s
  | 0, 0, _, _, _ => rfl
  | 0, g + 1, s, hf, _ => by
    obtain rfl : s = [] := List.length_eq_zero_iff.1 (by omega)
    rfl
  | f + 1, 0, s, _, hg => by
    obtain rfl : s = [] := List.length_eq_zero_iff.1 (by omega)
    rfl
  | f + 1, g + 1, s, hf, hg => by
    have hd := drop_len s
    unfold wordsF
    cases h : s.dropWhile (· == 32) with
    | nil => rfl
    | cons c r =>
      simp only
      cases hw : word1 (c :: r) with
      | none => rfl
      | some p =>
        obtain ⟨w, t⟩ := p
        obtain ⟨e, hne⟩ := word1_len hw
        have hl := congrArg List.length e
        rw [List.length_append] at hl
        have hwp := List.length_pos_iff.2 hne
        rw [h] at hd
        simp only
        rw [wordsF_fuel f g t (by omega) (by omega)]
/-- the words out of the first one -/
theorem words_at (s : List UInt8) : wordsL s = match s.dropWhile (· == 32) with
    | [] => some []
    | c :: r => (match word1 (c :: r) with
      | none => none
      | some (w, t) => (wordsL t).map (w :: ·)) := by
  have hd := drop_len s
  have h0 : wordsL s = wordsF (s.length + 1) s := wordsF_fuel _ _ _ (by omega) (by omega)
  rw [h0]
  show (match s.dropWhile (· == 32) with
    | [] => some []
    | c :: r => (match word1 (c :: r) with
      | none => none
      | some (w, t) => (wordsF s.length t).map (w :: ·))) = _
  cases h : s.dropWhile (· == 32) with
  | nil => rfl
  | cons c r =>
    simp only
    cases hw : word1 (c :: r) with
    | none => rfl
    | some p =>
      obtain ⟨w, t⟩ := p
      obtain ⟨e, hne⟩ := word1_len hw
      have hl := congrArg List.length e
      rw [List.length_append] at hl
      have hwp := List.length_pos_iff.2 hne
      rw [h] at hd
      simp only
      unfold wordsL
      rw [wordsF_fuel s.length t.length t (by omega) (by omega)]
/-- blanks ahead of a line -/
theorem words_lead (s : List UInt8) : wordsL (32 :: s) = wordsL s := by
  rw [words_at, words_at s]
  rfl
theorem tw_blank : ∀ r : List UInt8, (r ++ [32]).takeWhile (· != 32) = r.takeWhile (· != 32)
  | [] => rfl
  | c :: r => by simp only [List.cons_append, List.takeWhile_cons, tw_blank r]
theorem dw_blank : ∀ r : List UInt8, (r ++ [32]).dropWhile (· != 32) = r.dropWhile (· != 32) ++ [32]
  | [] => rfl
  | c :: r => by
    simp only [List.cons_append, List.dropWhile_cons, dw_blank r]
    split <;> rfl
/-- a blank at the end of a line -/
theorem word1_blank {s : List UInt8} (hs : s ≠ []) : word1 (s ++ [32]) = (word1 s).map fun p => (p.1, p.2 ++ [32]) := by
  cases s with
  | nil => exact absurd rfl hs
  | cons c r =>
    show word1 (c :: (r ++ [32])) = _
    rw [word1_cons, word1_cons]
    by_cases hc : c = 34
    · rw [if_pos hc, if_pos hc, qE_blank]
      cases hq : qE r with
      | none => rfl
      | some k =>
        simp only
        obtain ⟨h1, _⟩ := qE_lt r k hq
        rw [List.drop_append_of_le_length (by omega), List.take_append_of_le_length (by omega)]
        cases hd : r.drop (k + 1) with
        | nil => simp
        | cons x y =>
          have e1 : ((x :: y ++ [32] : List UInt8) = [] ∨ (x :: y ++ [32] : List UInt8).head? = some 32) ↔ ((x :: y : List UInt8) = [] ∨ (x :: y : List UInt8).head? = some 32) := by simp
          by_cases h : (x :: y : List UInt8) = [] ∨ (x :: y : List UInt8).head? = some 32
          · rw [if_pos h, if_pos (e1.2 h)]; rfl
          · rw [if_neg h, if_neg (fun e => h (e1.1 e))]; rfl
    · rw [if_neg hc, if_neg hc]
      rw [tw_blank, dw_blank]
      rfl
theorem db_blank : ∀ r : List UInt8, (r ++ [32]).dropWhile (· == 32) = if r.dropWhile (· == 32) = [] then [] else r.dropWhile (· == 32) ++ [32]
  | [] => rfl
  | c :: r => by
    simp only [List.cons_append, List.dropWhile_cons, db_blank r]
    split
    · rfl
    · rw [if_neg (by simp), List.cons_append]
theorem words_nil {s : List UInt8} (h : s.dropWhile (· == 32) = []) : wordsL s = some [] := by rw [words_at, h]
theorem words_none {s r : List UInt8} {c : UInt8} (h : s.dropWhile (· == 32) = c :: r) (hw : word1 (c :: r) = none) : wordsL s = none := by rw [words_at, h]; simp only [hw]
theorem words_some {s r w t : List UInt8} {c : UInt8} (h : s.dropWhile (· == 32) = c :: r) (hw : word1 (c :: r) = some (w, t)) : wordsL s = (wordsL t).map (w :: ·) := by rw [words_at, h]; simp only [hw]
theorem words_trail : ∀ (n : Nat) (s : List UInt8), s.length ≤ n → wordsL (s ++ [32]) = wordsL s
  | 0, s, h => by
    obtain rfl : s = [] := List.length_eq_zero_iff.1 (by omega)
    rfl
  | n + 1, s, h => by
    have hd := drop_len s
    have hb := db_blank s
    cases hs : s.dropWhile (· == 32) with
    | nil =>
      rw [hs, if_pos rfl] at hb
      rw [words_nil hb, words_nil hs]
    | cons c r =>
      rw [hs, if_neg (by simp), List.cons_append] at hb
      have h1 := word1_blank (s := c :: r) (by simp)
      rw [List.cons_append] at h1
      cases hw : word1 (c :: r) with
      | none =>
        rw [hw] at h1
        rw [words_none hb h1, words_none hs hw]
      | some p =>
        obtain ⟨w, t⟩ := p
        obtain ⟨e, hne⟩ := word1_len hw
        have hl := congrArg List.length e
        rw [List.length_append] at hl
        have hwp := List.length_pos_iff.2 hne
        rw [hs] at hd
        rw [hw] at h1
        rw [words_some hb h1, words_some hs hw, words_trail n t (by omega)]
theorem qE_more : ∀ (s t : List UInt8) (k : Nat), qE s = some k → qE (s ++ t) = some k
  | [], t, k, h => by cases h
  | [c], t, k, h => by
    unfold qE at h
    split at h
    · cases h; rename_i hc; subst hc; cases t <;> rfl
    · cases h
  | c :: d :: r, t, k, h => by
    show (if c = 34 then some 0 else if c = 92 then (qE (r ++ t)).map (· + 2) else (qE ((d :: r) ++ t)).map (· + 1)) = some k
    unfold qE at h
    split at h
    · rename_i hc; rw [if_pos hc]; exact h
    · rename_i hc
      rw [if_neg hc]
      split at h
      · rename_i h2
        rw [if_pos h2]
        rw [Option.map_eq_some_iff] at h
        obtain ⟨m, hm, rfl⟩ := h
        rw [qE_more r t m hm]
        rfl
      · rename_i h2
        rw [if_neg h2]
        rw [Option.map_eq_some_iff] at h
        obtain ⟨m, hm, rfl⟩ := h
        rw [qE_more (d :: r) t m hm]
        rfl
theorem tw_more (t : List UInt8) : ∀ r : List UInt8, (r ++ 32 :: t).takeWhile (· != 32) = r.takeWhile (· != 32)
  | [] => rfl
  | c :: r => by simp only [List.cons_append, List.takeWhile_cons, tw_more t r]
theorem dw_more (t : List UInt8) : ∀ r : List UInt8, (r ++ 32 :: t).dropWhile (· != 32) = r.dropWhile (· != 32) ++ 32 :: t
  | [] => rfl
  | c :: r => by
    simp only [List.cons_append, List.dropWhile_cons, dw_more t r]
    split <;> rfl
/-- a word stays one with a blank and more behind it -/
theorem word1_more {s w u : List UInt8} (t : List UInt8) (h : word1 s = some (w, u)) : word1 (s ++ 32 :: t) = some (w, u ++ 32 :: t) := by
  cases s with
  | nil => cases h
  | cons c r =>
    show word1 (c :: (r ++ 32 :: t)) = _
    rw [word1_cons] at h ⊢
    by_cases hc : c = 34
    · rw [if_pos hc] at h ⊢
      cases hq : qE r with
      | none => rw [hq] at h; cases h
      | some k =>
        obtain ⟨h1, _⟩ := qE_lt r k hq
        rw [hq] at h
        rw [qE_more r _ k hq]
        simp only at h ⊢
        rw [List.drop_append_of_le_length (by omega), List.take_append_of_le_length (by omega)]
        split at h
        · rename_i hd
          cases h
          rw [if_pos]
          rcases hd with hd | hd
          · rw [hd]; exact .inr rfl
          · refine .inr ?_
            cases hx : r.drop (k + 1) with
            | nil => rw [hx] at hd; cases hd
            | cons x y => rw [hx] at hd; exact hd
        · cases h
    · rw [if_neg hc] at h ⊢
      cases h
      rw [tw_more, dw_more]
theorem db_more (t : List UInt8) : ∀ r : List UInt8, (r ++ 32 :: t).dropWhile (· == 32) = if r.dropWhile (· == 32) = [] then t.dropWhile (· == 32) else r.dropWhile (· == 32) ++ 32 :: t
  | [] => rfl
  | c :: r => by
    simp only [List.cons_append, List.dropWhile_cons, db_more t r]
    split
    · rfl
    · rw [if_neg (by simp), List.cons_append]
theorem words_eq {s t : List UInt8} (h : s.dropWhile (· == 32) = t.dropWhile (· == 32)) : wordsL s = wordsL t := by rw [words_at, words_at t, h]
/-- the words of two lines with a blank between -/
theorem words_more (t : List UInt8) : ∀ (n : Nat) (s : List UInt8) (L : List (List UInt8)), s.length ≤ n → wordsL s = some L → wordsL (s ++ 32 :: t) = (wordsL t).map (L ++ ·)
  | 0, s, L, h, hL => by
    obtain rfl : s = [] := List.length_eq_zero_iff.1 (by omega)
    cases hL
    rw [List.nil_append, words_lead]
    cases wordsL t <;> rfl
  | n + 1, s, L, h, hL => by
    have hd := drop_len s
    have hb := db_more t s
    cases hs : s.dropWhile (· == 32) with
    | nil =>
      rw [hs, if_pos rfl] at hb
      rw [words_nil hs] at hL
      cases hL
      rw [words_eq hb]
      cases wordsL t <;> rfl
    | cons c r =>
      rw [hs, if_neg (by simp), List.cons_append] at hb
      cases hw : word1 (c :: r) with
      | none => rw [words_none hs hw] at hL; cases hL
      | some p =>
        obtain ⟨w, u⟩ := p
        have h1 := word1_more t hw
        rw [List.cons_append] at h1
        obtain ⟨e, hne⟩ := word1_len hw
        have hl := congrArg List.length e
        rw [List.length_append] at hl
        have hwp := List.length_pos_iff.2 hne
        rw [hs] at hd
        rw [words_some hs hw, Option.map_eq_some_iff] at hL
        obtain ⟨L0, hL0, rfl⟩ := hL
        rw [words_some hb h1, words_more t n u L0 (by omega) hL0, Option.map_map]
        rfl
theorem tw_all : ∀ r : List UInt8, (∀ x ∈ r, (x != 32) = true) → r.takeWhile (· != 32) = r ∧ r.dropWhile (· != 32) = []
  | [], _ => ⟨rfl, rfl⟩
  | c :: r, h => by
    have h1 := h c (List.mem_cons_self ..)
    obtain ⟨a, b⟩ := tw_all r (fun x hx => h x (List.mem_cons_of_mem _ hx))
    rw [List.takeWhile_cons, List.dropWhile_cons, if_pos h1, if_pos h1, a, b]
    exact ⟨rfl, rfl⟩
/-- a word without blanks and quotes -/
theorem words_plain {s : List UInt8} (hne : s ≠ []) (h : ∀ c ∈ s, c ≠ 32) (h34 : s.head? ≠ some 34) : wordsL s = some [s] := by
  cases s with
  | nil => exact absurd rfl hne
  | cons c r =>
    have hc : c ≠ 32 := h c (List.mem_cons_self ..)
    have hd : (c :: r).dropWhile (· == 32) = c :: r := by rw [List.dropWhile_cons, if_neg (by simp [hc])]
    have ha : ∀ x ∈ r, (x != 32) = true := fun x hx => by simp [h x (List.mem_cons_of_mem _ hx)]
    have hw : word1 (c :: r) = some (c :: r, []) := by
      rw [word1_cons, if_neg (fun e => h34 (by rw [e]; rfl)), (tw_all r ha).1, (tw_all r ha).2]
    rw [words_some hd hw]
    rfl
/-- a hexadecimal digit -/
def digit (c : UInt8) : Option Nat := if 48 ≤ c ∧ c ≤ 57 then some (c.toNat - 48) else if 97 ≤ c ∧ c ≤ 102 then some (c.toNat - 87) else none
/-- what stands between the quotes, as a text -/
def textF : List UInt8 → Option (List UInt8)
  | [] => some []
  | c :: r => if c < 32 ∨ 126 < c ∨ c = 34 then none else if c ≠ 92 then (textF r).map (c :: ·) else
    match r with
    | [] => none
    | d :: r => if d = 34 ∨ d = 92 then (textF r).map (d :: ·) else if d = 110 then (textF r).map (10 :: ·) else if d = 116 then (textF r).map (9 :: ·) else if d = 120 then
      (match r with
      | a :: b :: r => (match digit a, digit b with
        | some x, some y => (textF r).map (UInt8.ofNat (16 * x + y) :: ·)
        | _, _ => none)
      | _ => none)
      else none
def hexC (n : Nat) : UInt8 := if n < 10 then UInt8.ofNat (48 + n) else UInt8.ofNat (87 + n)
/-- a byte as it is quoted -/
def quoC (c : UInt8) : List UInt8 := if c = 34 ∨ c = 92 then [92, c] else if c = 10 then [92, 110] else if c = 9 then [92, 116] else if c < 32 ∨ 126 < c then [92, 120, hexC (c.toNat / 16), hexC (c.toNat % 16)] else [c]
def quoL (s : List UInt8) : List UInt8 := 34 :: (s.flatMap quoC ++ [34])
theorem textF_plain {c : UInt8} (h : ¬ (c < 32 ∨ 126 < c ∨ c = 34)) (h2 : c ≠ 92) (r : List UInt8) : textF (c :: r) = (textF r).map (c :: ·) := by
  rw [textF.eq_def]
  show (if c < 32 ∨ 126 < c ∨ c = 34 then none else if c ≠ 92 then (textF r).map (c :: ·) else _) = _
  rw [if_neg h, if_pos h2]
theorem textF_slash (d : UInt8) (r : List UInt8) : textF (92 :: d :: r) = if d = 34 ∨ d = 92 then (textF r).map (d :: ·) else if d = 110 then (textF r).map (10 :: ·) else if d = 116 then (textF r).map (9 :: ·) else if d = 120 then
      (match r with
      | a :: b :: r => (match digit a, digit b with
        | some x, some y => (textF r).map (UInt8.ofNat (16 * x + y) :: ·)
        | _, _ => none)
      | _ => none)
      else none := by
  rw [textF.eq_def]
  show (if ((92 : UInt8) < 32 ∨ 126 < (92 : UInt8) ∨ (92 : UInt8) = 34) then none else if (92 : UInt8) ≠ 92 then _ else _) = _
  rw [if_neg (by decide), if_neg (by decide)]
theorem textF_esc {d : UInt8} (h : d = 34 ∨ d = 92) (r : List UInt8) : textF (92 :: d :: r) = (textF r).map (d :: ·) := by
  rw [textF_slash, if_pos h]
theorem textF_n (r : List UInt8) : textF (92 :: 110 :: r) = (textF r).map (10 :: ·) := by
  rw [textF_slash, if_neg (by decide), if_pos rfl]
theorem textF_t (r : List UInt8) : textF (92 :: 116 :: r) = (textF r).map (9 :: ·) := by
  rw [textF_slash, if_neg (by decide), if_neg (by decide), if_pos rfl]
theorem textF_x {a b : UInt8} {x y : Nat} (ha : digit a = some x) (hb : digit b = some y) (r : List UInt8) : textF (92 :: 120 :: a :: b :: r) = (textF r).map (UInt8.ofNat (16 * x + y) :: ·) := by
  rw [textF_slash, if_neg (by decide), if_neg (by decide), if_neg (by decide), if_pos rfl]
  simp only [ha, hb]
theorem digit_hexC : ∀ n : Nat, n < 16 → digit (hexC n) = some n ∧ hexC n ≠ 34 ∧ hexC n ≠ 92 ∧ ¬ hexC n < 32 ∧ ¬ 126 < hexC n := by decide
theorem byte_back (c : UInt8) : UInt8.ofNat (16 * (c.toNat / 16) + c.toNat % 16) = c := by
  rw [Nat.div_add_mod, UInt8.ofNat_toNat]
theorem textF_quoC (c : UInt8) (r : List UInt8) : textF (quoC c ++ r) = (textF r).map (c :: ·) := by
  have hc : c.toNat < 256 := c.toNat_lt
  unfold quoC
  split
  · rename_i h; exact textF_esc h r
  · rename_i h0
    split
    · rename_i h; subst h; exact textF_n r
    · split
      · rename_i h; subst h; exact textF_t r
      · split
        · have h1 := (digit_hexC (c.toNat / 16) (by omega)).1
          have h2 := (digit_hexC (c.toNat % 16) (by omega)).1
          have := textF_x h1 h2 r
          rw [byte_back] at this
          exact this
        · rename_i h
          exact textF_plain (fun e => e.elim (fun e => h (.inl e)) (fun e => e.elim (fun e => h (.inr e)) (fun e => h0 (.inl e)))) (fun e => h0 (.inr e)) r
theorem textF_quo : ∀ s : List UInt8, textF (s.flatMap quoC) = some s
  | [] => rfl
  | c :: s => by rw [List.flatMap_cons, textF_quoC, textF_quo s]; rfl
theorem qE_esc (d : UInt8) (r : List UInt8) : qE (92 :: d :: r) = (qE r).map (· + 2) := by
  rw [qE, if_neg (by decide), if_pos rfl]
theorem qE_plain {c : UInt8} (h : c ≠ 34) (h2 : c ≠ 92) (r : List UInt8) : qE (c :: r) = (qE r).map (· + 1) := by
  cases r with
  | nil =>
    show (if c = 34 then some 0 else none) = none
    rw [if_neg h]
  | cons d r => rw [qE, if_neg h, if_neg h2]
theorem qE_quoC (c : UInt8) (r : List UInt8) : qE (quoC c ++ r) = (qE r).map (· + (quoC c).length) := by
  have hc : c.toNat < 256 := c.toNat_lt
  unfold quoC
  split
  · exact qE_esc c r
  · rename_i h0
    split
    · exact qE_esc _ r
    · split
      · exact qE_esc _ r
      · split
        · obtain ⟨_, a1, a2, _⟩ := digit_hexC (c.toNat / 16) (by omega)
          obtain ⟨_, b1, b2, _⟩ := digit_hexC (c.toNat % 16) (by omega)
          show qE (92 :: 120 :: hexC (c.toNat / 16) :: hexC (c.toNat % 16) :: r) = _
          rw [qE_esc, qE_plain a1 a2, qE_plain b1 b2, Option.map_map, Option.map_map]
          rfl
        · exact qE_plain (fun e => h0 (.inl e)) (fun e => h0 (.inr e)) r
theorem qE_quo : ∀ (s t : List UInt8), qE (s.flatMap quoC ++ 34 :: t) = some (s.flatMap quoC).length
  | [], t => by cases t <;> rfl
  | c :: s, t => by
    rw [List.flatMap_cons, List.append_assoc, qE_quoC, qE_quo s t, List.length_append]
    simp [Nat.add_comm]
theorem words_quo (s : List UInt8) : wordsL (quoL s) = some [quoL s] := by
  have hd : (quoL s).dropWhile (· == 32) = 34 :: (s.flatMap quoC ++ [34]) := rfl
  have hq := qE_quo s []
  have hw : word1 (34 :: (s.flatMap quoC ++ [34])) = some (quoL s, []) := by
    rw [word1_cons, if_pos rfl, hq]
    simp only
    have e1 : (s.flatMap quoC ++ [34]).drop ((s.flatMap quoC).length + 1) = [] := List.drop_eq_nil_iff.2 (by simp)
    have e2 : (s.flatMap quoC ++ [34]).take ((s.flatMap quoC).length + 1) = s.flatMap quoC ++ [34] := List.take_of_length_le (by simp)
    rw [e1, e2, if_pos (.inl rfl)]
    rfl
  rw [words_some hd hw]
  rfl
end Go.Proofs.YtakccaldcolbmaaGreatDoor.Pln
