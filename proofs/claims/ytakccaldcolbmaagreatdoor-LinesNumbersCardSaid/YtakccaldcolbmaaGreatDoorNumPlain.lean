/- Plain: the number that a text says, by the numeral and by its digits (chapters 04 and 31). -/
import Derived.Lib.ParseIntB
import Derived.Lib.ItoaNum
import Derived.Below
import Derived.Lib.ItoaMem
import Derived.Lib.ParseIntBCases
namespace Go.Proofs.YtakccaldcolbmaaGreatDoor.Wk
open Go
/-- the number that a text says, as the program finds it -/
def wholeL (l : List UInt8) : Option Int := match Lib.parseIntB 64 l with
  | .ok v => if Lib.itoa v = l then some v else none
  | _ => none
def wholeN (l : List UInt8) : Int := (wholeL l).getD 0
def wholeB (l : List UInt8) : Bool := (wholeL l).isSome
theorem parse_range {l : List UInt8} {v : Int} (h : Lib.parseIntB 64 l = .ok v) : -9223372036854775808 ≤ v ∧ v ≤ 9223372036854775807 := by
  unfold Lib.parseIntB at h
  cases l with
  | nil => cases h
  | cons c r =>
    simp only at h
    split at h
    · cases h
    · cases h
    · rename_i u _
      have p63 : (2 : Nat) ^ (64 - 1) = 9223372036854775808 := by decide
      rw [p63] at h
      split at h
      · cases h
      · split at h
        · cases h
        · rename_i h1 h2
          injection h with h
          subst h
          split <;> omega
end Go.Proofs.YtakccaldcolbmaaGreatDoor.Wk
namespace Go.Proofs.YtakccaldcolbmaaGreatDoor.Pk
open Go Go.RowKit

def dv : Nat → List UInt8 → Nat
  | a, [] => a
  | a, c :: t => dv (10 * a + c.toNat % 48) t
def dgt (c : UInt8) : Bool := decide (48 ≤ c.toNat) && decide (c.toNat ≤ 57)
theorem dv_cons (a : Nat) (c : UInt8) (l : List UInt8) : dv a (c :: l) = dv (10 * a + c.toNat % 48) l := by simp only [dv]
theorem dv_nil (a : Nat) : dv a [] = a := by simp only [dv]
theorem dv_snoc (l : List UInt8) : ∀ (a : Nat) (c : UInt8), dv a (l ++ [c]) = 10 * dv a l + c.toNat % 48 := by
  induction l with
  | nil => intro a c; rw [List.nil_append, dv_cons, dv_nil, dv_nil]
  | cons b l ih => intro a c; rw [List.cons_append, dv_cons, dv_cons, ih]
theorem dv_le : ∀ (l : List UInt8) (a : Nat), a ≤ dv a l
  | [], a => by rw [dv_nil]; exact Nat.le_refl _
  | b :: l, a => by
    have := dv_le l (10 * a + b.toNat % 48)
    simp only [dv]
    omega
theorem dgt_iff (c : UInt8) : dgt c = true ↔ 48 ≤ c.toNat ∧ c.toNat ≤ 57 := by simp [dgt]
/-- what ParseUint finds of digits alone -/
theorem uintM_all : ∀ (l : List UInt8) (a : Nat), l.all dgt = true → a ≤ 18446744073709551615 → Lib.parseUintM 18446744073709551615 a l = if dv a l ≤ 18446744073709551615 then .ok (dv a l) else .range
  | [], a, _, ha => by simp [Lib.parseUintM, dv, ha]
  | c :: l, a, h, ha => by
    rw [List.all_cons, Bool.and_eq_true, dgt_iff] at h
    have hl := dv_le l (10 * a + c.toNat % 48)
    rw [dv_cons, Lib.parseUintM, if_pos h.1]
    by_cases h1 : 1844674407370955162 ≤ a
    · rw [if_pos h1, if_neg (by omega)]
    · rw [if_neg h1]
      by_cases h2 : 18446744073709551615 < a * 10 + (c.toNat - 48)
      · rw [if_pos h2, if_neg (by omega)]
      · rw [if_neg h2, uintM_all l _ h.2 (by omega)]
        rw [show a * 10 + (c.toNat - 48) = 10 * a + c.toNat % 48 by omega]
theorem uintM_ok : ∀ (l : List UInt8) (a u : Nat), Lib.parseUintM 18446744073709551615 a l = .ok u → l.all dgt = true
  | [], a, u, _ => rfl
  | c :: l, a, u, h => by
    simp only [Lib.parseUintM] at h
    split at h
    · rename_i h0
      split at h
      · cases h
      · split at h
        · cases h
        · rw [List.all_cons, Bool.and_eq_true, dgt_iff]
          exact ⟨h0, uintM_ok l _ u h⟩
    · cases h
/-- what a numeral is: digits, no nought ahead -/
def canon (l : List UInt8) : Prop := l ≠ [] ∧ l.all dgt = true ∧ (l.head? = some 48 → l.length = 1)
theorem dv_pos : ∀ (l : List UInt8), l.all dgt = true → l ≠ [] → l.head? ≠ some 48 → 1 ≤ dv 0 l
  | [], _, h, _ => absurd rfl h
  | c :: l, ha, _, h => by
    rw [List.all_cons, Bool.and_eq_true, dgt_iff] at ha
    have := dv_le l (10 * 0 + c.toNat % 48)
    have hc : c.toNat ≠ 48 := fun e => h (by rw [show c = 48 from UInt8.toNat_inj.1 e]; rfl)
    simp only [dv]
    omega
theorem ofNat_dgt (c : UInt8) (h : dgt c = true) : UInt8.ofNat (48 + c.toNat % 48) = c := by
  rw [dgt_iff] at h
  apply UInt8.toNat_inj.1
  simp only [UInt8.toNat_ofNat']
  omega
theorem snoc_cases (l : List UInt8) : l = [] ∨ ∃ r c, l = r ++ [c] := by
  rcases List.eq_nil_or_concat l with h | ⟨r, c, h⟩
  · exact .inl h
  · exact .inr ⟨r, c, by simpa using h⟩
theorem canon_dec : ∀ (n : Nat) (l : List UInt8), l.length = n → canon l → Lib.decDigits (dv 0 l) = l
  | 0, l, hn, h => absurd (List.eq_nil_of_length_eq_zero hn) h.1
  | n + 1, l, hn, h => by
    obtain ⟨hne, ha, hz⟩ := h
    rcases snoc_cases l with rfl | ⟨r, c, rfl⟩
    · exact absurd rfl hne
    rw [List.all_append, Bool.and_eq_true] at ha
    obtain ⟨ha, hc⟩ := ha
    rw [List.all_cons, List.all_nil, Bool.and_true] at hc
    have hc' := (dgt_iff c).1 hc
    rw [dv_snoc]
    rcases snoc_cases r with rfl | ⟨r', c', hr⟩
    · simp only [dv, List.nil_append]
      rw [Lib.decDigits_one (by omega), show 48 + (10 * 0 + c.toNat % 48) = 48 + c.toNat % 48 by omega, ofNat_dgt c hc]
    · have hrne : r ≠ [] := by rw [hr]; simp
      have hh : r.head? ≠ some 48 := by
        intro e
        have : (r ++ [c]).head? = some 48 := by rw [List.head?_append, e]; rfl
        have := hz this
        rw [List.length_append, List.length_singleton] at this
        exact hrne (List.eq_nil_of_length_eq_zero (by omega))
      have hp := dv_pos r ha hrne hh
      rw [Lib.decDigits, dif_neg (by omega), show (10 * dv 0 r + c.toNat % 48) / 10 = dv 0 r by omega, show (10 * dv 0 r + c.toNat % 48) % 10 = c.toNat % 48 by omega, ofNat_dgt c hc]
      rw [canon_dec n r (by rw [List.length_append, List.length_singleton] at hn; omega) ⟨hrne, ha, fun e => absurd e hh⟩]
theorem dec_canon (u : Nat) : canon (Lib.decDigits u) ∧ dv 0 (Lib.decDigits u) = u ∧ (1 ≤ u → (Lib.decDigits u).head? ≠ some 48) := by
  induction u using Nat.strongRecOn with
  | _ u ih =>
    by_cases h : u < 10
    · rw [Lib.decDigits_one h]
      have e : (UInt8.ofNat (48 + u)).toNat = 48 + u := by simp only [UInt8.toNat_ofNat']; omega
      refine ⟨⟨by simp, ?_, fun _ => rfl⟩, ?_, fun h1 h2 => ?_⟩
      · rw [List.all_cons, List.all_nil, Bool.and_true, dgt_iff, e]; omega
      · simp only [dv, e]; omega
      · injection h2 with h2
        rw [h2] at e
        have : (48 : UInt8).toNat = 48 := rfl
        omega
    · rw [Lib.decDigits, dif_neg h]
      obtain ⟨⟨h1, h2, h3⟩, h4, h5⟩ := ih (u / 10) (by omega)
      have e : (UInt8.ofNat (48 + u % 10)).toNat = 48 + u % 10 := by simp only [UInt8.toNat_ofNat']; omega
      have h6 := h5 (by omega)
      have h7 : (Lib.decDigits (u / 10) ++ [UInt8.ofNat (48 + u % 10)]).head? ≠ some 48 := by
        rw [List.head?_append]
        cases hd : (Lib.decDigits (u / 10)).head? with
        | none => exact absurd (List.head?_eq_none_iff.1 hd) h1
        | some x => rw [hd] at h6; exact h6
      refine ⟨⟨by simp, ?_, fun e => absurd e h7⟩, ?_, fun _ => h7⟩
      · rw [List.all_append, Bool.and_eq_true, List.all_cons, List.all_nil, Bool.and_true, dgt_iff, e]
        exact ⟨h2, by omega⟩
      · rw [dv_snoc, h4, e]; omega
theorem dec_len : ∀ (k u : Nat), u < 10 ^ (k + 1) → (Lib.decDigits u).length ≤ k + 1
  | 0, u, h => by rw [Lib.decDigits_one (by simpa using h)]; exact Nat.le_refl _
  | k + 1, u, h => by
    by_cases h1 : u < 10
    · rw [Lib.decDigits_one h1]; simp
    · rw [Lib.decDigits, dif_neg h1, List.length_append, List.length_singleton]
      have := dec_len k (u / 10) (by rw [Nat.pow_succ] at h; omega)
      omega

/-- the number that the digits behind a sign say, or none -/
def digL (neg : Bool) (d : List UInt8) : Option Int :=
  if d = [] ∨ 19 < d.length ∨ (d.head? = some 48 ∧ (1 < d.length ∨ neg = true)) then none
  else if d.all dgt = true then
    if neg = true then (if dv 0 d ≤ 9223372036854775808 then some (-(dv 0 d : Int)) else none)
    else (if dv 0 d < 9223372036854775808 then some (dv 0 d : Int) else none)
  else none
def refL (l : List UInt8) : Option Int := if l.head? = some 45 then digL true l.tail else digL false l

theorem uintB_ok {d : List UInt8} {u : Nat} (h : Lib.parseUintB 64 d = .ok u) : d ≠ [] ∧ d.all dgt = true ∧ u = dv 0 d := by
  have e : (2 : Nat) ^ 64 - 1 = 18446744073709551615 := by decide
  unfold Lib.parseUintB at h
  rw [e] at h
  split at h
  · cases h
  · rename_i hne
    have ha := uintM_ok d 0 u h
    refine ⟨hne, ha, ?_⟩
    rw [uintM_all d 0 ha (by omega)] at h
    split at h
    · injection h with h; exact h.symm
    · cases h
theorem uintB_dv {d : List UInt8} (hne : d ≠ []) (ha : d.all dgt = true) (h : dv 0 d ≤ 18446744073709551615) : Lib.parseUintB 64 d = .ok (dv 0 d) := by
  have e : (2 : Nat) ^ 64 - 1 = 18446744073709551615 := by decide
  unfold Lib.parseUintB
  rw [e, if_neg hne, uintM_all d 0 ha (by omega), if_pos h]
/-- what digits say, either way -/
theorem dig_iff (neg : Bool) (d : List UInt8) (v : Int) :
    digL neg d = some v ↔ ∃ u : Nat, Lib.parseUintB 64 d = .ok u ∧ Lib.decDigits u = d ∧ (neg = true → 1 ≤ u ∧ u ≤ 9223372036854775808 ∧ v = -(u : Int)) ∧ (neg = false → u < 9223372036854775808 ∧ v = (u : Int)) := by
  constructor
  · intro h
    unfold digL at h
    split at h
    · cases h
    rename_i h0
    split at h
    · rename_i ha
      have hne : d ≠ [] := fun e => h0 (.inl e)
      have hz : d.head? = some 48 → d.length = 1 := fun e => by
        have : ¬ 1 < d.length := fun h1 => h0 (.inr (.inr ⟨e, .inl h1⟩))
        have := List.length_pos_iff.2 hne
        omega
      have hc := canon_dec d.length d rfl ⟨hne, ha, hz⟩
      cases neg with
      | true =>
        rw [if_pos rfl] at h
        split at h
        · rename_i hb
          refine ⟨dv 0 d, uintB_dv hne ha (by omega), hc, fun _ => ⟨dv_pos d ha hne fun e => h0 (.inr (.inr ⟨e, .inr rfl⟩)), hb, ?_⟩, fun e => by cases e⟩
          injection h with h; exact h.symm
        · cases h
      | false =>
        rw [if_neg (by decide)] at h
        split at h
        · rename_i hb
          refine ⟨dv 0 d, uintB_dv hne ha (by omega), hc, fun e => (by cases e), fun _ => ⟨hb, ?_⟩⟩
          injection h with h; exact h.symm
        · cases h
    · cases h
  · rintro ⟨u, hu, hd, ht, hf⟩
    obtain ⟨hne, ha, rfl⟩ := uintB_ok hu
    obtain ⟨⟨_, _, hz⟩, _, h1⟩ := dec_canon (dv 0 d)
    have hlen := dec_len 18 (dv 0 d)
    rw [hd] at hz h1 hlen
    have e19 : (10 : Nat) ^ (18 + 1) = 10000000000000000000 := by decide
    rw [e19] at hlen
    have hb : dv 0 d ≤ 9223372036854775808 := by
      cases neg with
      | true => exact (ht rfl).2.1
      | false => exact Nat.le_of_lt (hf rfl).1
    unfold digL
    rw [if_neg, if_pos ha]
    · cases neg with
      | true => rw [if_pos rfl, if_pos hb, (ht rfl).2.2]
      | false => rw [if_neg (by decide), if_pos (hf rfl).1, (hf rfl).2]
    · rintro (e | e | ⟨e, e2 | e2⟩)
      · exact hne e
      · have := hlen (by omega); omega
      · have := hz e; omega
      · exact h1 (ht e2).1 e
theorem whole_ref (l : List UInt8) : Wk.wholeL l = refL l := by
  have p63 : (2 : Nat) ^ (64 - 1) = 9223372036854775808 := by decide
  apply Option.ext
  intro v
  have hW : Wk.wholeL l = some v ↔ Lib.parseIntB 64 l = .ok v ∧ Lib.itoa v = l := by
    unfold Wk.wholeL
    cases hp : Lib.parseIntB 64 l with
    | ok u =>
      simp only
      constructor
      · intro h
        split at h
        · rename_i h1
          injection h with h
          subst h
          exact ⟨rfl, h1⟩
        · cases h
      · rintro ⟨h1, h2⟩
        injection h1 with h1
        subst h1
        rw [if_pos h2]
    | range => simp
    | _ => simp
  rw [hW]
  unfold refL
  by_cases h45 : l.head? = some 45
  · rw [if_pos h45, dig_iff]
    obtain ⟨r, rfl⟩ : ∃ r, l = 45 :: r := by
      cases l with
      | nil => cases h45
      | cons c r => injection h45 with h45; exact ⟨r, by rw [h45]⟩
    rw [Lib.parseIntB_minus, p63, List.tail_cons]
    cases hu : Lib.parseUintB 64 r with
    | range => simp [Lib.signedC]
    | ok u =>
      simp only [Lib.signedC]
      constructor
      · rintro ⟨h1, h2⟩
        split at h1
        · cases h1
        · injection h1 with h1
          subst h1
          have h0 : 1 ≤ u := by
            rcases Nat.eq_zero_or_pos u with rfl | h
            · exfalso
              have : Lib.itoa (-((0 : Nat) : Int)) = Lib.decDigits 0 := Lib.itoa_nonneg 0
              rw [this, Lib.decDigits_one (by omega)] at h2
              cases h2
            · exact h
          rw [Lib.itoa_neg u h0] at h2
          injection h2 with _ h2
          exact ⟨u, rfl, h2, fun _ => ⟨h0, by omega, rfl⟩, fun e => by cases e⟩
      · rintro ⟨u', h1, h2, h3, _⟩
        injection h1 with h1
        subst h1
        obtain ⟨h4, h5, rfl⟩ := h3 (by simp)
        rw [if_neg (by omega), Lib.itoa_neg u h4, h2]
        exact ⟨rfl, rfl⟩
    | _ => simp [Lib.signedC]
  · rw [if_neg h45, dig_iff]
    cases l with
    | nil => simp [Lib.parseIntB, Lib.parseUintB]
    | cons c r =>
      have h45' : c.toNat ≠ 45 := fun e => h45 (by rw [show c = 45 from UInt8.toNat_inj.1 e]; rfl)
      by_cases h43 : c.toNat = 43
      · obtain rfl : c = 43 := UInt8.toNat_inj.1 h43
        rw [Lib.parseIntB_plus, p63]
        constructor
        · rintro ⟨h1, h2⟩
          exfalso
          cases hu : Lib.parseUintB 64 r with
          | range => rw [hu] at h1; cases h1
          | ok u =>
            rw [hu] at h1
            simp only [Lib.signlessC] at h1
            split at h1
            · cases h1
            · injection h1 with h1
              subst h1
              rw [Lib.itoa_nonneg] at h2
              have := (dec_canon u).1.2.1
              rw [h2] at this
              simp [dgt] at this
          | _ => rw [hu] at h1; cases h1
        · rintro ⟨u, h1, _⟩
          have := (uintB_ok h1).2.1
          simp [dgt] at this
      · rw [Lib.parseIntB_plain 64 c r h43 h45', p63]
        cases hu : Lib.parseUintB 64 (c :: r) with
        | range => simp [Lib.signlessC]
        | ok u =>
          simp only [Lib.signlessC]
          constructor
          · rintro ⟨h1, h2⟩
            split at h1
            · cases h1
            · injection h1 with h1
              subst h1
              rw [Lib.itoa_nonneg] at h2
              exact ⟨u, rfl, h2, fun e => (by cases e), fun _ => ⟨by omega, rfl⟩⟩
          · rintro ⟨u', h1, h2, _, h3⟩
            injection h1 with h1
            subst h1
            obtain ⟨h4, rfl⟩ := h3 (by simp)
            rw [if_neg (by omega), Lib.itoa_nonneg, h2]
            exact ⟨rfl, rfl⟩
        | _ => simp [Lib.signlessC]
end Go.Proofs.YtakccaldcolbmaaGreatDoor.Pk
