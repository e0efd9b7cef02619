/- Plain: what stands at a token's place, scanned alone, is that token. -/
import Derived.Test.YtfamljigcffngaaGreatDoorLexLocal
namespace Go.Proofs.YtfamljigcffngaaGreatDoor.Plx
open Go Go.Lib

theorem name_behindR : ∀ (n : Nat) (b : Bool) (l : List UInt8), l.length ≤ n → Pch.textsL l = true → Pch.textsL (l.drop (nameR b (Pch.runes l))) = true
  | _, b, [], _, h => by simpa using h
  | 0, _, c :: l, hn, _ => by simp at hn
  | n + 1, b, c :: l, hn, h => by
    have hne : c :: l ≠ [] := by simp
    have hw := decodeL_width (c :: l)
    have h2 := h
    unfold Pch.textsL at h2
    rw [Pch.runes_step _ hne, List.all_cons, Bool.and_eq_true] at h2
    rw [Pch.runes_step _ hne, nameR]
    split
    · rw [← List.drop_drop]
      exact name_behindR n false _ (by rw [List.length_drop]; simp only [List.length_cons] at hn ⊢; omega) h2.2
    · exact h
theorem name_behind (l : List UInt8) (h : Pch.textsL l = true) : Pch.textsL (l.drop (nameN l)) = true := name_behindR _ _ _ (Nat.le_refl _) h
theorem isDig_low {c : UInt8} (h : isDig c = true) : c.toNat < 128 := by
  unfold isDig at h
  have := of_decide_eq_true h
  omega
theorem dig_last (l : List UInt8) (h : 1 ≤ digN l) : ∃ c, l[digN l - 1]? = some c ∧ c.toNat < 128 := by
  unfold digN at h ⊢
  have hlt : (l.takeWhile isDig).length - 1 < (l.takeWhile isDig).length := by omega
  refine ⟨(l.takeWhile isDig)[(l.takeWhile isDig).length - 1], ?_, ?_⟩
  · have hp := List.takeWhile_prefix (p := isDig) (l := l)
    have := hp.getElem hlt
    rw [List.getElem?_eq_getElem (by have := hp.length_le; omega), this]
  · have hm : (l.takeWhile isDig)[(l.takeWhile isDig).length - 1] ∈ l.takeWhile isDig := List.getElem_mem hlt
    exact isDig_low (List.all_eq_true.1 List.all_takeWhile _ hm)
theorem dig_behind (l : List UInt8) (h : Pch.textsL l = true) : Pch.textsL (l.drop (digN l)) = true := by
  by_cases h0 : digN l = 0
  · rw [h0]; exact h
  · obtain ⟨c, h1, h2⟩ := dig_last l (by omega)
    exact low_behind l _ c (by omega) h1 h2 h
theorem signs_low : ∀ s ∈ signsL, ∀ c ∈ s, c.toNat < 128 := by decide
theorem sign_behind (l s : List UInt8) (hs : signAt l = some s) (h : Pch.textsL l = true) : Pch.textsL (l.drop s.length) = true := by
  have hm := (signAt_le _ _ hs).1
  have hp : s <+: l := List.isPrefixOf_iff_prefix.1 (by have := List.find?_some hs; simpa [Lib.hasPrefix] using this)
  have hl := signs_len s hm
  have hlt : s.length - 1 < s.length := by omega
  refine low_behind l _ (s[s.length - 1]) hl.1 ?_ (signs_low s hm _ (List.getElem_mem hlt)) h
  rw [List.getElem?_eq_getElem (by have := hp.length_le; omega), hp.getElem hlt]
theorem ahead_texts (c : UInt8) (r : List UInt8) (h : Pch.textsL (c :: r) = true) : Pch.textsL ((c :: r).drop (aheadN c)) = true := by
  unfold aheadN
  split
  · rename_i hc
    subst hc
    exact texts_low 36 r (by decide) h
  · exact h
theorem ahead_le (c : UInt8) : aheadN c ≤ 1 := by unfold aheadN; split <;> omega
theorem tok_behind (l : List UInt8) (x : Tok × Nat) (h : Pch.textsL l = true) (hx : tokL l = .ok x) : Pch.textsL (l.drop x.2) = true := by
  cases l with
  | nil => cases hx
  | cons c r =>
    rw [tokL_cons] at hx
    split at hx
    · unfold wholeL at hx
      split at hx
      · cases hx
      · split at hx
        · cases hx; exact dig_behind _ h
        · cases hx
    · split at hx
      · rename_i hq
        unfold quoL at hx
        split at hx
        · cases hx
        · rename_i y hy
          cases hx
          have h1 := quo_last_byte c r y hy
          have h2 := quo_le c r y hy
          refine low_behind (c :: r) (y.2 + 1) c (by omega) ?_ (by rcases hq with rfl | rfl <;> decide) h
          rw [show y.2 + 1 - 1 = (y.2 - 1) + 1 by omega]
          exact h1
      · unfold wordL wordR at hx
        split at hx
        · cases hx
        · split at hx
          · cases hx
            dsimp only
            rw [← List.drop_drop]
            exact name_behind _ (ahead_texts c r h)
          · unfold signR at hx
            split at hx
            · rename_i s hs
              cases hx
              exact sign_behind _ _ hs h
            · cases hx
theorem tokL_take (l : List UInt8) (x : Tok × Nat) (n : Nat) (h : Pch.textsL l = true) (hx : tokL l = .ok x) (hn : x.2 ≤ n) (hd : Pch.textsL (l.drop n) = true) : tokL (l.take n) = .ok x := by
  have hle := tokL_le l x hx
  cases l with
  | nil => cases hx
  | cons c r =>
    obtain ⟨m, rfl⟩ : ∃ m, n = m + 1 := ⟨n - 1, by omega⟩
    rw [tokL_cons] at hx
    rw [List.take_succ_cons, tokL_cons]
    split at hx
    · rename_i hc
      rw [if_pos hc, ← List.take_succ_cons]
      exact wholeL_take _ _ _ (dig_behind _ h) hd hx hn
    · rename_i hc
      rw [if_neg hc]
      split at hx
      · rename_i hq
        rw [if_pos hq]
        unfold quoL at hx ⊢
        split at hx
        · cases hx
        · rename_i y hy
          cases hx
          rw [quo_take c r y m hy (by dsimp only at hn; omega)]
      · rename_i hq
        rw [if_neg hq, ← List.take_succ_cons]
        exact wordR_take _ _ (ahead_le c) _ _ _ (ahead_texts c r h) hd hx hn (by omega)
/-! ### comments -/
theorem com_take : ∀ (d : Int) (l : List UInt8) (n k : Nat), com d l = some n → n ≤ k → com d (l.take k) = some n
  | _, [], n, _, h, _ => by simp [com] at h
  | _, [_], n, _, h, _ => by simp [com] at h
  | d, a :: b :: r, n, k, h, hk => by
    have hle := com_le d (a :: b :: r) n h
    obtain ⟨j, rfl⟩ : ∃ j, k = j + 1 + 1 := ⟨k - 2, by omega⟩
    rw [List.take_succ_cons, List.take_succ_cons]
    unfold com at h ⊢
    split at h
    · rename_i g
      rw [if_pos g]
      obtain ⟨m, hm, rfl⟩ := Option.map_eq_some_iff.1 h
      rw [com_take _ r m j hm (by omega)]
      rfl
    · rename_i g
      rw [if_neg g]
      split at h
      · rename_i g2
        rw [if_pos g2]
        split at h
        · rename_i g3
          rw [if_pos g3]
          exact h
        · rename_i g3
          rw [if_neg g3]
          obtain ⟨m, hm, rfl⟩ := Option.map_eq_some_iff.1 h
          rw [com_take _ r m j hm (by omega)]
          rfl
      · rename_i g2
        rw [if_neg g2]
        obtain ⟨m, hm, rfl⟩ := Option.map_eq_some_iff.1 h
        have := com_take _ (b :: r) m (j + 1) hm (by omega)
        rw [List.take_succ_cons] at this
        rw [this]
        rfl
theorem com_last : ∀ (d : Int) (l : List UInt8) (n : Nat), com d l = some n → l[n - 1]? = some 41
  | _, [], n, h => by simp [com] at h
  | _, [_], n, h => by simp [com] at h
  | d, a :: b :: r, n, h => by
    unfold com at h
    split at h
    · obtain ⟨m, hm, rfl⟩ := Option.map_eq_some_iff.1 h
      have := com_le _ r m hm
      rw [show m + 2 - 1 = (m - 1) + 2 by omega]
      exact com_last _ r m hm
    · split at h
      · rename_i g2
        split at h
        · cases h
          rw [g2.2]
          rfl
        · obtain ⟨m, hm, rfl⟩ := Option.map_eq_some_iff.1 h
          have := com_le _ r m hm
          rw [show m + 2 - 1 = (m - 1) + 2 by omega]
          exact com_last _ r m hm
      · obtain ⟨m, hm, rfl⟩ := Option.map_eq_some_iff.1 h
        have := com_le _ (b :: r) m hm
        rw [show m + 1 - 1 = (m - 1) + 1 by omega]
        exact com_last _ (b :: r) m hm
/-! ### blanks -/
def blB (c : UInt8) : Bool := [32, 9, 13, 10].contains c
theorem trimB_eq (l : List UInt8) : trimB l = l.dropWhile blB := rfl
theorem trimB_idem (l : List UInt8) : trimB (trimB l) = trimB l := by
  induction l with
  | nil => rfl
  | cons c l ih =>
    rw [trimB_eq (c :: l), List.dropWhile_cons]
    split
    · exact ih
    · rename_i h
      rw [trimB_eq, List.dropWhile_cons, if_neg h]
theorem trimB_take (l : List UInt8) (j : Nat) (hj : l.length - (trimB l).length ≤ j) : trimB (l.take j) = (trimB l).take (j - (l.length - (trimB l).length)) := by
  induction l generalizing j with
  | nil => simp [trimB, Lib.trimLeftS]
  | cons c l ih =>
    have hle := trimB_le l
    by_cases hc : blB c = true
    · have e : trimB (c :: l) = trimB l := by rw [trimB_eq, List.dropWhile_cons, if_pos hc]; rfl
      rw [e] at hj ⊢
      simp only [List.length_cons] at hj ⊢
      obtain ⟨i, rfl⟩ : ∃ i, j = i + 1 := ⟨j - 1, by omega⟩
      rw [List.take_succ_cons, trimB_eq, List.dropWhile_cons, if_pos hc, ← trimB_eq, ih i (by omega)]
      congr 1
      omega
    · have e : trimB (c :: l) = c :: l := by rw [trimB_eq, List.dropWhile_cons, if_neg hc]
      rw [e, Nat.sub_self, Nat.sub_zero]
      cases j with
      | zero => rfl
      | succ j => rw [List.take_succ_cons, trimB_eq, List.dropWhile_cons, if_neg hc]
theorem blB_low {c : UInt8} (h : blB c = true) : c.toNat < 128 := by
  unfold blB at h
  simp only [List.contains_eq_mem, List.mem_cons, List.mem_nil_iff, or_false, decide_eq_true_eq] at h
  rcases h with rfl | rfl | rfl | rfl <;> decide
theorem trimB_texts : ∀ (l : List UInt8), Pch.textsL l = true → Pch.textsL (trimB l) = true
  | [], h => h
  | c :: l, h => by
    rw [trimB_eq, List.dropWhile_cons]
    split
    · rename_i hc
      exact trimB_texts l (texts_low c l (blB_low hc) h)
    · exact h
end Go.Proofs.YtfamljigcffngaaGreatDoor.Plx
