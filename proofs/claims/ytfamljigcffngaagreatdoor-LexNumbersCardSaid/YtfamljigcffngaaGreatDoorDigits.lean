/- Plain: the digits of a number, read back. (Lines of XKeyNum, of mine.) -/
import Derived.Lib.ParseIntBCases
import Derived.Lib.ItoaMem
namespace Go.Proofs.YtfamljigcffngaaGreatDoor.Pdg
open Go Go.RowKit

def dv : Nat → List UInt8 → Nat
  | a, [] => a
  | a, c :: t => dv (10 * a + c.toNat % 48) t
def dgt (c : UInt8) : Bool := decide (48 ≤ c.toNat) && decide (c.toNat ≤ 57)
theorem dv_cons (a : Nat) (c : UInt8) (l : List UInt8) : dv a (c :: l) = dv (10 * a + c.toNat % 48) l := by simp only [dv]
theorem dv_nil (a : Nat) : dv a [] = a := by simp only [dv]
theorem dv_snoc (l : List UInt8) : ∀ (a : Nat) (c : UInt8), dv a (l ++ [c]) = 10 * dv a l + c.toNat % 48 := by
  induction l with
  | nil => intro a c; rw [List.nil_append, dv_cons, dv_nil, dv_nil]
  | cons b l ih => intro a c; rw [List.cons_append, dv_cons, dv_cons, ih]
theorem dv_le : ∀ (l : List UInt8) (a : Nat), a ≤ dv a l
  | [], a => by rw [dv_nil]; exact Nat.le_refl _
  | b :: l, a => by
    have := dv_le l (10 * a + b.toNat % 48)
    simp only [dv]
    omega
theorem dgt_iff (c : UInt8) : dgt c = true ↔ 48 ≤ c.toNat ∧ c.toNat ≤ 57 := by simp [dgt]
/-- what ParseUint finds of digits alone -/
theorem uintM_all : ∀ (l : List UInt8) (a : Nat), l.all dgt = true → a ≤ 18446744073709551615 → Lib.parseUintM 18446744073709551615 a l = if dv a l ≤ 18446744073709551615 then .ok (dv a l) else .range
  | [], a, _, ha => by simp [Lib.parseUintM, dv, ha]
  | c :: l, a, h, ha => by
    rw [List.all_cons, Bool.and_eq_true, dgt_iff] at h
    have hl := dv_le l (10 * a + c.toNat % 48)
    rw [dv_cons, Lib.parseUintM, if_pos h.1]
    by_cases h1 : 1844674407370955162 ≤ a
    · rw [if_pos h1, if_neg (by omega)]
    · rw [if_neg h1]
      by_cases h2 : 18446744073709551615 < a * 10 + (c.toNat - 48)
      · rw [if_pos h2, if_neg (by omega)]
      · rw [if_neg h2, uintM_all l _ h.2 (by omega)]
        rw [show a * 10 + (c.toNat - 48) = 10 * a + c.toNat % 48 by omega]
theorem uintM_ok : ∀ (l : List UInt8) (a u : Nat), Lib.parseUintM 18446744073709551615 a l = .ok u → l.all dgt = true
  | [], a, u, _ => rfl
  | c :: l, a, u, h => by
    simp only [Lib.parseUintM] at h
    split at h
    · rename_i h0
      split at h
      · cases h
      · split at h
        · cases h
        · rw [List.all_cons, Bool.and_eq_true, dgt_iff]
          exact ⟨h0, uintM_ok l _ u h⟩
    · cases h
/-- what a numeral is: digits, no nought ahead -/
def canon (l : List UInt8) : Prop := l ≠ [] ∧ l.all dgt = true ∧ (l.head? = some 48 → l.length = 1)
theorem dv_pos : ∀ (l : List UInt8), l.all dgt = true → l ≠ [] → l.head? ≠ some 48 → 1 ≤ dv 0 l
  | [], _, h, _ => absurd rfl h
  | c :: l, ha, _, h => by
    rw [List.all_cons, Bool.and_eq_true, dgt_iff] at ha
    have := dv_le l (10 * 0 + c.toNat % 48)
    have hc : c.toNat ≠ 48 := fun e => h (by rw [show c = 48 from UInt8.toNat_inj.1 e]; rfl)
    simp only [dv]
    omega
theorem ofNat_dgt (c : UInt8) (h : dgt c = true) : UInt8.ofNat (48 + c.toNat % 48) = c := by
  rw [dgt_iff] at h
  apply UInt8.toNat_inj.1
  simp only [UInt8.toNat_ofNat']
  omega
theorem snoc_cases (l : List UInt8) : l = [] ∨ ∃ r c, l = r ++ [c] := by
  rcases List.eq_nil_or_concat l with h | ⟨r, c, h⟩
  · exact .inl h
  · exact .inr ⟨r, c, by simpa using h⟩
theorem canon_dec : ∀ (n : Nat) (l : List UInt8), l.length = n → canon l → Lib.decDigits (dv 0 l) = l
  | 0, l, hn, h => absurd (List.eq_nil_of_length_eq_zero hn) h.1
  | n + 1, l, hn, h => by
    obtain ⟨hne, ha, hz⟩ := h
    rcases snoc_cases l with rfl | ⟨r, c, rfl⟩
    · exact absurd rfl hne
    rw [List.all_append, Bool.and_eq_true] at ha
    obtain ⟨ha, hc⟩ := ha
    rw [List.all_cons, List.all_nil, Bool.and_true] at hc
    have hc' := (dgt_iff c).1 hc
    rw [dv_snoc]
    rcases snoc_cases r with rfl | ⟨r', c', hr⟩
    · simp only [dv, List.nil_append]
      rw [Lib.decDigits_one (by omega), show 48 + (10 * 0 + c.toNat % 48) = 48 + c.toNat % 48 by omega, ofNat_dgt c hc]
    · have hrne : r ≠ [] := by rw [hr]; simp
      have hh : r.head? ≠ some 48 := by
        intro e
        have : (r ++ [c]).head? = some 48 := by rw [List.head?_append, e]; rfl
        have := hz this
        rw [List.length_append, List.length_singleton] at this
        exact hrne (List.eq_nil_of_length_eq_zero (by omega))
      have hp := dv_pos r ha hrne hh
      rw [Lib.decDigits, dif_neg (by omega), show (10 * dv 0 r + c.toNat % 48) / 10 = dv 0 r by omega, show (10 * dv 0 r + c.toNat % 48) % 10 = c.toNat % 48 by omega, ofNat_dgt c hc]
      rw [canon_dec n r (by rw [List.length_append, List.length_singleton] at hn; omega) ⟨hrne, ha, fun e => absurd e hh⟩]
theorem dec_canon (u : Nat) : canon (Lib.decDigits u) ∧ dv 0 (Lib.decDigits u) = u ∧ (1 ≤ u → (Lib.decDigits u).head? ≠ some 48) := by
  induction u using Nat.strongRecOn with
  | _ u ih =>
    by_cases h : u < 10
    · rw [Lib.decDigits_one h]
      have e : (UInt8.ofNat (48 + u)).toNat = 48 + u := by simp only [UInt8.toNat_ofNat']; omega
      refine ⟨⟨by simp, ?_, fun _ => rfl⟩, ?_, fun h1 h2 => ?_⟩
      · rw [List.all_cons, List.all_nil, Bool.and_true, dgt_iff, e]; omega
      · simp only [dv, e]; omega
      · injection h2 with h2
        rw [h2] at e
        have : (48 : UInt8).toNat = 48 := rfl
        omega
    · rw [Lib.decDigits, dif_neg h]
      obtain ⟨⟨h1, h2, h3⟩, h4, h5⟩ := ih (u / 10) (by omega)
      have e : (UInt8.ofNat (48 + u % 10)).toNat = 48 + u % 10 := by simp only [UInt8.toNat_ofNat']; omega
      have h6 := h5 (by omega)
      have h7 : (Lib.decDigits (u / 10) ++ [UInt8.ofNat (48 + u % 10)]).head? ≠ some 48 := by
        rw [List.head?_append]
        cases hd : (Lib.decDigits (u / 10)).head? with
        | none => exact absurd (List.head?_eq_none_iff.1 hd) h1
        | some x => rw [hd] at h6; exact h6
      refine ⟨⟨by simp, ?_, fun e => absurd e h7⟩, ?_, fun _ => h7⟩
      · rw [List.all_append, Bool.and_eq_true, List.all_cons, List.all_nil, Bool.and_true, dgt_iff, e]
        exact ⟨h2, by omega⟩
      · rw [dv_snoc, h4, e]; omega
theorem uintB_ok {d : List UInt8} {u : Nat} (h : Lib.parseUintB 64 d = .ok u) : d ≠ [] ∧ d.all dgt = true ∧ u = dv 0 d := by
  have e : (2 : Nat) ^ 64 - 1 = 18446744073709551615 := by decide
  unfold Lib.parseUintB at h
  rw [e] at h
  split at h
  · cases h
  · rename_i hne
    have ha := uintM_ok d 0 u h
    refine ⟨hne, ha, ?_⟩
    rw [uintM_all d 0 ha (by omega)] at h
    split at h
    · injection h with h; exact h.symm
    · cases h
theorem uintB_dv {d : List UInt8} (hne : d ≠ []) (ha : d.all dgt = true) (h : dv 0 d ≤ 18446744073709551615) : Lib.parseUintB 64 d = .ok (dv 0 d) := by
  have e : (2 : Nat) ^ 64 - 1 = 18446744073709551615 := by decide
  unfold Lib.parseUintB
  rw [e, if_neg hne, uintM_all d 0 ha (by omega), if_pos h]
/-- what digits say, either way -/
theorem parse_itoa (u : Nat) (h : u ≤ 9223372036854775807) : Lib.parseIntB 64 (Lib.itoa (u : Int)) = .ok (u : Int) := by
  obtain ⟨⟨h1, h2, _⟩, h3, _⟩ := dec_canon u
  rw [Lib.itoa_nonneg]
  have hU := uintB_dv h1 h2 (by omega)
  rw [h3] at hU
  generalize Lib.decDigits u = l at *
  cases l with
  | nil => exact absurd rfl h1
  | cons c r =>
    rw [List.all_cons, Bool.and_eq_true, dgt_iff] at h2
    rw [Lib.parseIntB_plain 64 c r (by omega) (by omega), hU]
    have p63 : (2 : Nat) ^ (64 - 1) = 9223372036854775808 := by decide
    simp only [Lib.signlessC, p63]
    rw [if_neg (by omega)]
theorem parse_digits (l : List UInt8) (hl : l.all dgt = true) (v : Int) (h : Lib.parseIntB 64 l = .ok v) : 0 ≤ v := by
  cases l with
  | nil => cases h
  | cons c r =>
    rw [List.all_cons, Bool.and_eq_true, dgt_iff] at hl
    rw [Lib.parseIntB_plain 64 c r (by omega) (by omega)] at h
    cases hU : Lib.parseUintB 64 (c :: r) with
    | ok u =>
      rw [hU] at h
      simp only [Lib.signlessC] at h
      split at h
      · cases h
      · injection h with h
        omega
    | range => rw [hU] at h; cases h
    | _ => rw [hU] at h; cases h
end Go.Proofs.YtfamljigcffngaaGreatDoor.Pdg
