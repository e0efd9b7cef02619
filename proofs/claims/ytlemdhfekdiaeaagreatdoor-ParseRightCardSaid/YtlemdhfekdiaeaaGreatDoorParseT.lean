/- Plain: a right text, character by character: what is copied byte by byte is what is written rune by rune. -/
import Derived.Test.YtlemdhfekdiaeaaGreatDoorParseP
import Derived.Lib.MapLaws
import Derived.Laws.RangeAny
import Derived.Lib.TrimAscii
namespace Go.Proofs.YtlemdhfekdiaeaaGreatDoor.Ppa
open Go Go.Lib Go.Proofs.YtlemdhfekdiaeaaGreatDoor.Ptr

theorem first_high (c : UInt8) (t : Bs) (h : 128 ≤ c.toNat) : 128 ≤ (decodeL (c :: t)).1 := by
  have h1 := (decode_high ⟨(c :: t).toArray⟩ 0 (by simp [ByteArray.size]) h).1
  rw [← decodeL_drop] at h1
  exact h1
theorem encZ_high (r : Int) (h : 128 ≤ r) : ∀ x ∈ encodeRuneZ r, 128 ≤ x ∧ x < 256 := by
  intro x hx
  refine ⟨?_, (encodeRuneZ_byte r x hx).2⟩
  by_cases h1 : r ≤ 2047
  · rw [encodeRuneZ_two h h1] at hx
    simp only [List.mem_cons, List.not_mem_nil, or_false] at hx
    omega
  · by_cases h2 : (2048 ≤ r ∧ r < 55296) ∨ (57343 < r ∧ r ≤ 65535)
    · rw [encodeRuneZ_three h2] at hx
      simp only [List.mem_cons, List.not_mem_nil, or_false] at hx
      omega
    · by_cases h3 : 65536 ≤ r ∧ r ≤ 1114111
      · rw [encodeRuneZ_four h3.1 h3.2] at hx
        simp only [List.mem_cons, List.not_mem_nil, or_false] at hx
        omega
      · rw [encodeRuneZ_bad (by omega)] at hx
        simp only [List.mem_cons, List.not_mem_nil, or_false] at hx
        omega
theorem texts_step {r : Bs} (hne : r ≠ []) (h : Pch.textsL r = true) : Pch.okR (decodeL r) = true ∧ Pch.charB (decodeL r).1 = true ∧ Pch.textsL (skip r) = true := by
  unfold Pch.textsL at h
  rw [Pch.runes_step r hne, List.all_cons, Bool.and_eq_true, Bool.and_eq_true] at h
  exact ⟨h.1.1, h.1.2, h.2⟩
theorem texts_low {x : UInt8} {t : Bs} (hx : x.toNat < 128) (h : Pch.textsL (x :: t) = true) : Pch.textsL t = true := by
  have h1 := (texts_step (by simp) h).2.2
  unfold skip at h1
  rw [decodeL_ascii x t hx] at h1
  exact h1
theorem char_bytes {r : Bs} (hne : r ≠ []) (h : Pch.textsL r = true) : encodeRune ((decodeL r).1 : Int) = r.take (decodeL r).2 := by
  have h1 := (texts_step hne h).1
  refine encode_decode r hne ?_
  intro e
  unfold Pch.okR at h1
  rw [decide_eq_true e] at h1
  cases h1
theorem char_high {x : UInt8} {t : Bs} (hx : 128 ≤ x.toNat) (h : Pch.textsL (x :: t) = true) : ∀ y ∈ (x :: t).take (decodeL (x :: t)).2, 128 ≤ y.toNat := by
  rw [← char_bytes (by simp) h]
  intro y hy
  unfold encodeRune at hy
  obtain ⟨z, hz, rfl⟩ := List.mem_map.1 hy
  have h1 := encZ_high _ (by have := first_high x t hx; omega) z hz
  simp
  omega
theorem valF_high (q : UInt8) (hq : q.toNat < 128) (f : Nat) (acc : Bs) (x : UInt8) (t : Bs) (hx : 128 ≤ x.toNat) : valF q (f + 1) acc (x :: t) = valF q f (acc ++ [x]) t := by
  have e0 : ¬ x = q := fun e => by subst e; omega
  have e1 : ¬ x = 60 := fun e => by subst e; revert hx; decide
  have e2 : ¬ x = 38 := fun e => by subst e; revert hx; decide
  have e3 : ¬ x = 13 := fun e => by subst e; revert hx; decide
  have e4 : ¬ Pch.blankC x = true := fun e => by
    simp only [Pch.blankC, Bool.or_eq_true, beq_iff_eq] at e
    rcases e with ((rfl | rfl) | rfl) | rfl <;> revert hx <;> decide
  rw [valF, if_neg e0, if_neg e1, if_neg e2, if_neg e3, if_neg e4]
theorem valF_copy (q : UInt8) (hq : q.toNat < 128) : ∀ (u : Bs) (f : Nat) (acc t : Bs), (∀ y ∈ u, 128 ≤ y.toNat) → valF q (f + u.length) acc (u ++ t) = valF q f (acc ++ u) t
  | [], f, acc, t, _ => by simp
  | x :: u, f, acc, t, h => by
    rw [List.length_cons, ← Nat.add_assoc, List.cons_append, valF_high q hq _ acc x (u ++ t) (h x (by simp)), valF_copy q hq u f (acc ++ [x]) t (fun y hy => h y (by simp [hy]))]
    simp
theorem contF_high (N f : Nat) (p : Int) (d run : Nat) (x : UInt8) (t : Bs) (s : St) (hx : 128 ≤ x.toNat) : contF N (f + 1) p d run (x :: t) s = contF N f p d 0 t { s with text := s.text ++ [x] } := by
  have e0 : ¬ (x = 62 ∧ 2 ≤ run) := fun e => by obtain ⟨rfl, _⟩ := e; revert hx; decide
  have e1 : ¬ x = 60 := fun e => by subst e; revert hx; decide
  have e2 : ¬ x = 38 := fun e => by subst e; revert hx; decide
  have e3 : ¬ x = 13 := fun e => by subst e; revert hx; decide
  have e4 : ¬ x = 93 := fun e => by subst e; revert hx; decide
  rw [contF]
  simp only [if_neg e0, if_neg e1, if_neg e2, if_neg e3, if_neg e4]
theorem contF_copy (N : Nat) : ∀ (u : Bs) (f : Nat) (p : Int) (d run : Nat) (t : Bs) (s : St), u ≠ [] → (∀ y ∈ u, 128 ≤ y.toNat) → contF N (f + u.length) p d run (u ++ t) s = contF N f p d 0 t { s with text := s.text ++ u }
  | [], _, _, _, _, _, _, hne, _ => absurd rfl hne
  | [x], f, p, d, run, t, s, _, h => by
    exact contF_high N f p d run x t s (h x (by simp))
  | x :: y :: u, f, p, d, run, t, s, _, h => by
    rw [List.length_cons, ← Nat.add_assoc, List.cons_append, contF_high N _ p d run x _ s (h x (by simp)), contF_copy N (y :: u) f p d 0 t _ (by simp) (fun z hz => h z (by simp at hz ⊢; exact .inr hz))]
    simp
/-- in a right text a small byte stands at a character's place -/
theorem texts_at : ∀ (n : Nat) (r : Bs) (i : Nat) (x : UInt8) (t : Bs), r.length ≤ n → Pch.textsL r = true → r.drop i = x :: t → x.toNat < 128 → Pch.textsL (x :: t) = true
  | 0, r, i, x, t, hn, _, hd, _ => by
    have : r = [] := List.eq_nil_of_length_eq_zero (by omega)
    subst this
    simp at hd
  | n + 1, r, i, x, t, hn, h, hd, hx => by
    by_cases h0 : i = 0
    · subst h0
      rw [List.drop_zero] at hd
      rw [← hd]
      exact h
    · have hne : r ≠ [] := by intro e; subst e; simp at hd
      have hw := decodeL_width r
      have hle := decodeL_le r hne
      by_cases hk : (decodeL r).2 ≤ i
      · refine texts_at n (skip r) (i - (decodeL r).2) x t (by unfold skip; rw [List.length_drop]; omega) (texts_step hne h).2.2 ?_ hx
        unfold skip
        rw [List.drop_drop, show (decodeL r).2 + (i - (decodeL r).2) = i by omega]
        exact hd
      · exfalso
        cases r with
        | nil => exact hne rfl
        | cons y u =>
          rcases Nat.lt_or_ge y.toNat 128 with hy | hy
          · rw [decodeL_ascii y u hy] at hk
            simp at hk
            omega
          · have hm : x ∈ (y :: u).take (decodeL (y :: u)).2 := by
              have hi : i < (y :: u).length := by omega
              have hg := List.drop_eq_getElem_cons hi
              rw [hd] at hg
              injection hg with hg _
              rw [hg]
              exact List.mem_take_iff_getElem.2 ⟨i, by omega, rfl⟩
            have := char_high hy h x hm
            omega
end Go.Proofs.YtlemdhfekdiaeaaGreatDoor.Ppa
