/- Plain: lines (chapter 31): the words and texts of a line by places, as the walks meet them; no program in sight. -/
import Derived.Test.YtakccaldcolbmaaGreatDoorLinesC
namespace Go.Proofs.YtakccaldcolbmaaGreatDoor.Pln
open Go

theorem drop_at {r : List UInt8} {m : Nat} {c : UInt8} (h : r[m]? = some c) : r.drop m = c :: r.drop (m + 1) := by
  obtain ⟨hm, rfl⟩ := List.getElem?_eq_some_iff.1 h
  exact List.drop_eq_getElem_cons hm
theorem qE_end {r : List UInt8} {m : Nat} (h : r.length ≤ m) : qE (r.drop m) = none := by rw [List.drop_eq_nil_iff.2 h]; rfl
theorem qE_stop {r : List UInt8} {m : Nat} (h : r[m]? = some 34) : qE (r.drop m) = some 0 := by
  rw [drop_at h]
  cases r.drop (m + 1) <;> rfl
theorem qE_two {r : List UInt8} {m : Nat} (h : r[m]? = some 92) : qE (r.drop m) = (qE (r.drop (m + 2))).map (· + 2) := by
  rw [drop_at h]
  cases hd : r.drop (m + 1) with
  | nil =>
    have : r.drop (m + 2) = [] := by rw [List.drop_eq_nil_iff] at hd ⊢; omega
    rw [this]
    rfl
  | cons d t =>
    have : r.drop (m + 2) = t := by rw [show m + 2 = (m + 1) + 1 by omega, ← List.drop_drop, hd]; rfl
    rw [this, qE_esc]
theorem qE_next {r : List UInt8} {m : Nat} {c : UInt8} (h : r[m]? = some c) (h1 : c ≠ 34) (h2 : c ≠ 92) : qE (r.drop m) = (qE (r.drop (m + 1))).map (· + 1) := by
  rw [drop_at h, qE_plain h1 h2]
theorem tw_at : ∀ (r : List UInt8) (m : Nat), m ≤ r.length → (∀ j, j < m → r[j]? ≠ some 32) → (m = r.length ∨ r[m]? = some 32) → r.takeWhile (· != 32) = r.take m ∧ r.dropWhile (· != 32) = r.drop m
  | [], m, hm, _, _ => by
    obtain rfl : m = 0 := by simpa using hm
    exact ⟨rfl, rfl⟩
  | c :: r, 0, _, _, h2 => by
    rcases h2 with h2 | h2
    · simp at h2
    · simp only [List.getElem?_cons_zero, Option.some.injEq] at h2
      subst h2
      exact ⟨rfl, rfl⟩
  | c :: r, m + 1, hm, h1, h2 => by
    have hc : (c != 32) = true := by
      have := h1 0 (by omega)
      simpa using this
    obtain ⟨a, b⟩ := tw_at r m (by simpa using hm) (fun j hj => by have := h1 (j + 1) (by omega); simpa using this) (by simpa using h2)
    rw [List.takeWhile_cons, List.dropWhile_cons, if_pos hc, if_pos hc, a, b]
    exact ⟨rfl, rfl⟩
/-- the words from a place on -/
theorem words_end {s : List UInt8} {k : Nat} (h : s.length ≤ k) : wordsL (s.drop k) = some [] := by rw [List.drop_eq_nil_iff.2 h]; rfl
theorem words_skip {s : List UInt8} {k : Nat} (h : s[k]? = some 32) : wordsL (s.drop k) = wordsL (s.drop (k + 1)) := by rw [drop_at h, words_lead]
theorem words_word {s : List UInt8} {k m : Nat} {c : UInt8} (h : s[k]? = some c) (h32 : c ≠ 32) (h34 : c ≠ 34) (hkm : k < m) (hm : m ≤ s.length) (h1 : ∀ j, k < j → j < m → s[j]? ≠ some 32) (h2 : m = s.length ∨ s[m]? = some 32) :
    wordsL (s.drop k) = (wordsL (s.drop m)).map ((s.drop k).take (m - k) :: ·) := by
  have hk : k < s.length := (List.getElem?_eq_some_iff.1 h).1
  obtain ⟨a, b⟩ := tw_at (s.drop (k + 1)) (m - (k + 1)) (by rw [List.length_drop]; omega) (fun j hj => by rw [List.getElem?_drop]; exact h1 _ (by omega) (by omega)) (by
    rw [List.length_drop, List.getElem?_drop, show k + 1 + (m - (k + 1)) = m by omega]
    rcases h2 with h2 | h2
    · exact .inl (by omega)
    · exact .inr h2)
  have hd : (s.drop k).dropWhile (· == 32) = c :: s.drop (k + 1) := by rw [drop_at h, List.dropWhile_cons, if_neg (by simp [h32])]
  rw [List.drop_drop, show k + 1 + (m - (k + 1)) = m by omega] at b
  have hw : word1 (c :: s.drop (k + 1)) = some ((s.drop k).take (m - k), s.drop m) := by
    rw [word1_cons, if_neg h34, a, b, drop_at h, show m - k = (m - (k + 1)) + 1 by omega, List.take_succ_cons]
  rw [words_some hd hw]
theorem words_quoted {s : List UInt8} {k n : Nat} (h : s[k]? = some 34) (hq : qE (s.drop (k + 1)) = some n) (h2 : k + n + 2 = s.length ∨ s[k + n + 2]? = some 32) :
    wordsL (s.drop k) = (wordsL (s.drop (k + n + 2))).map ((s.drop k).take (n + 2) :: ·) := by
  have hd : (s.drop k).dropWhile (· == 32) = 34 :: s.drop (k + 1) := by rw [drop_at h]; rfl
  have hw : word1 (34 :: s.drop (k + 1)) = some ((s.drop k).take (n + 2), s.drop (k + n + 2)) := by
    rw [word1_cons, if_pos rfl, hq]
    simp only
    rw [List.drop_drop, show k + 1 + (n + 1) = k + n + 2 by omega, drop_at h, List.take_succ_cons, if_pos]
    rcases h2 with h2 | h2
    · exact .inl (List.drop_eq_nil_iff.2 (by omega))
    · exact .inr (by rw [drop_at h2]; rfl)
  rw [words_some hd hw]
theorem words_bad {s : List UInt8} {k : Nat} (h : s[k]? = some 34) (hq : ∀ n, qE (s.drop (k + 1)) = some n → ∃ c, s[k + n + 2]? = some c ∧ c ≠ 32) : wordsL (s.drop k) = none := by
  have hd : (s.drop k).dropWhile (· == 32) = 34 :: s.drop (k + 1) := by rw [drop_at h]; rfl
  have hw : word1 (34 :: s.drop (k + 1)) = none := by
    rw [word1_cons, if_pos rfl]
    cases hx : qE (s.drop (k + 1)) with
    | none => rfl
    | some n =>
      obtain ⟨c, hc, hc2⟩ := hq n hx
      simp only
      rw [List.drop_drop, show k + 1 + (n + 1) = k + n + 2 by omega, drop_at hc, if_neg]
      intro e
      rcases e with e | e
      · cases e
      · simp only [List.head?_cons, Option.some.injEq] at e
        exact hc2 e
  rw [words_none hd hw]
/-- a text in quotes from a place on -/
theorem text_end {s : List UInt8} {k : Nat} (h : s.length ≤ k) : textF (s.drop k) = some [] := by rw [List.drop_eq_nil_iff.2 h]; rfl
theorem text_bad {s : List UInt8} {k : Nat} {c : UInt8} (h : s[k]? = some c) (hc : c < 32 ∨ 126 < c ∨ c = 34) : textF (s.drop k) = none := by
  rw [drop_at h, textF.eq_def]
  show (if c < 32 ∨ 126 < c ∨ c = 34 then none else _) = _
  rw [if_pos hc]
theorem text_plain {s : List UInt8} {k : Nat} {c : UInt8} (h : s[k]? = some c) (hc : ¬ (c < 32 ∨ 126 < c ∨ c = 34)) (h2 : c ≠ 92) : textF (s.drop k) = (textF (s.drop (k + 1))).map (c :: ·) := by
  rw [drop_at h, textF_plain hc h2]
theorem text_last {s : List UInt8} {k : Nat} (h : s[k]? = some 92) (hk : s.length ≤ k + 1) : textF (s.drop k) = none := by
  rw [drop_at h, List.drop_eq_nil_iff.2 hk]
  rfl
theorem text_two {s : List UInt8} {k : Nat} {d : UInt8} (h : s[k]? = some 92) (hd : s[k + 1]? = some d) : s.drop k = 92 :: d :: s.drop (k + 2) := by
  rw [drop_at h, drop_at hd]
theorem text_esc {s : List UInt8} {k : Nat} {d : UInt8} (h : s[k]? = some 92) (hd : s[k + 1]? = some d) (hd2 : d = 34 ∨ d = 92) : textF (s.drop k) = (textF (s.drop (k + 2))).map (d :: ·) := by rw [text_two h hd, textF_esc hd2]
theorem text_n {s : List UInt8} {k : Nat} (h : s[k]? = some 92) (hd : s[k + 1]? = some 110) : textF (s.drop k) = (textF (s.drop (k + 2))).map (10 :: ·) := by rw [text_two h hd, textF_n]
theorem text_t {s : List UInt8} {k : Nat} (h : s[k]? = some 92) (hd : s[k + 1]? = some 116) : textF (s.drop k) = (textF (s.drop (k + 2))).map (9 :: ·) := by rw [text_two h hd, textF_t]
theorem text_x {s : List UInt8} {k x y : Nat} {a b : UInt8} (h : s[k]? = some 92) (hd : s[k + 1]? = some 120) (ha : s[k + 2]? = some a) (hb : s[k + 3]? = some b) (hx : digit a = some x) (hy : digit b = some y) : textF (s.drop k) = (textF (s.drop (k + 4))).map (UInt8.ofNat (16 * x + y) :: ·) := by
  rw [text_two h hd, drop_at ha, drop_at hb, textF_x hx hy]
theorem text_x_bad {s : List UInt8} {k : Nat} (h : s[k]? = some 92) (hd : s[k + 1]? = some 120) (hb : s.length ≤ k + 3 ∨ (∃ a, s[k + 2]? = some a ∧ digit a = none) ∨ ∃ b, s[k + 3]? = some b ∧ digit b = none) : textF (s.drop k) = none := by
  rw [text_two h hd, textF_slash, if_neg (by decide), if_neg (by decide), if_neg (by decide), if_pos rfl]
  cases h1 : s.drop (k + 2) with
  | nil => rfl
  | cons a t =>
    cases t with
    | nil => rfl
    | cons b r =>
      have ga : s[k + 2]? = some a := by have := congrArg (·[0]?) h1; simpa [List.getElem?_drop] using this
      have gb : s[k + 3]? = some b := by have := congrArg (·[1]?) h1; simpa [List.getElem?_drop, Nat.add_assoc] using this
      have hl : k + 3 < s.length := (List.getElem?_eq_some_iff.1 gb).1
      rcases hb with hb | ⟨a', ha', hn⟩ | ⟨b', hb', hn⟩
      · omega
      · rw [ga] at ha'
        cases ha'
        simp only [hn]
      · rw [gb] at hb'
        cases hb'
        simp only [hn]
        cases digit a <;> rfl
theorem text_other {s : List UInt8} {k : Nat} {d : UInt8} (h : s[k]? = some 92) (hd : s[k + 1]? = some d) (h1 : ¬ (d = 34 ∨ d = 92)) (h2 : d ≠ 110) (h3 : d ≠ 116) (h4 : d ≠ 120) : textF (s.drop k) = none := by
  rw [text_two h hd, textF_slash, if_neg h1, if_neg h2, if_neg h3, if_neg h4]
end Go.Proofs.YtakccaldcolbmaaGreatDoor.Pln
