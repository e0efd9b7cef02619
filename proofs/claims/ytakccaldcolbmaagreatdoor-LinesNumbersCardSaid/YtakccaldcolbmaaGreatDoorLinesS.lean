/- Plain: lines (chapter 31): trimming, cutting and looking for a byte, as the program does it; no program in sight. -/
import Derived.Test.YtakccaldcolbmaaGreatDoorLinesQ
import Derived.Lib.IndexMore
import Derived.Lib.SlTrimSet
import Derived.Lib.ParseIntBTie
namespace Go.Proofs.YtakccaldcolbmaaGreatDoor.Pln
open Go

/-- trimming blanks changes no words -/
theorem words_dropw : ∀ (l : List UInt8), wordsL (l.dropWhile (· == 32)) = wordsL l
  | [] => rfl
  | c :: l => by
    rw [List.dropWhile_cons]
    split
    · rename_i h
      obtain rfl : c = 32 := by simpa using h
      rw [words_dropw l, words_lead]
    · rfl
theorem words_blanks : ∀ (k : Nat) (l : List UInt8), wordsL (l ++ List.replicate k 32) = wordsL l
  | 0, l => by simp
  | k + 1, l => by
    rw [List.replicate_succ, show l ++ 32 :: List.replicate k 32 = (l ++ [32]) ++ List.replicate k 32 by simp, words_blanks k, words_trail _ _ (Nat.le_refl _)]
theorem all_rep : ∀ (l : List UInt8), (∀ x ∈ l, x = 32) → l = List.replicate l.length 32
  | [], _ => rfl
  | c :: l, h => by
    obtain rfl : c = 32 := h c (by simp)
    rw [List.length_cons, List.replicate_succ, ← all_rep l (fun x hx => h x (by simp [hx]))]
theorem words_trim (l : List UInt8) : wordsL (Lib.trimB l 32) = wordsL l := by
  unfold Lib.trimB Lib.trimLeftB
  rw [words_dropw]
  unfold Lib.trimRightB
  have e := List.takeWhile_append_dropWhile (p := fun x : UInt8 => x == 32) (l := l.reverse)
  have e2 : l = (l.reverse.dropWhile (· == 32)).reverse ++ (l.reverse.takeWhile (· == 32)).reverse := by
    rw [← List.reverse_append, e, List.reverse_reverse]
  have ha : ∀ x ∈ (l.reverse.takeWhile (· == 32)).reverse, x = 32 := by
    intro x hx
    have := List.all_takeWhile (p := fun x : UInt8 => x == 32) (l := l.reverse)
    rw [List.all_eq_true] at this
    have := this x (List.mem_reverse.1 hx)
    simpa using this
  conv => rhs; rw [e2, all_rep _ ha]
  rw [words_blanks]
/-- what is trimmed does not begin with a blank -/
theorem dropw_head (l : List UInt8) : (l.dropWhile (· == 32)).head? ≠ some 32 := by
  intro h
  have := List.head?_dropWhile_not (fun x : UInt8 => x == 32) l
  rw [h] at this
  simp at this
theorem trim_head (l : List UInt8) : (Lib.trimB l 32).head? ≠ some 32 := dropw_head _
theorem trim_len (l : List UInt8) : (Lib.trimB l 32).length ≤ l.length := by
  unfold Lib.trimB Lib.trimLeftB Lib.trimRightB
  have h1 := (List.dropWhile_sublist (fun x : UInt8 => x == 32) (l := (l.reverse.dropWhile (· == 32)).reverse)).length_le
  have h2 := (List.dropWhile_sublist (fun x : UInt8 => x == 32) (l := l.reverse)).length_le
  rw [List.length_reverse] at h1 h2
  omega
theorem dropw_len (l : List UInt8) : (Lib.trimLeftB l 32).length ≤ l.length := (List.dropWhile_sublist _).length_le
/-- each word of a line: no longer than the line; with its second quote, if it begins with one -/
theorem words_each : ∀ (n : Nat) (s : List UInt8) (L : List (List UInt8)), s.length ≤ n → wordsL s = some L → ∀ x ∈ L, x.length ≤ s.length ∧ (x.head? = some 34 → 2 ≤ x.length) := by
  intro n
  induction n with
  | zero =>
    intro s L hs h
    obtain rfl : s = [] := List.length_eq_zero_iff.1 (by omega)
    rw [words_nil rfl] at h
    cases h
    intro x hx
    cases hx
  | succ n ih =>
    intro s L hs h x hx
    have hd := drop_len s
    cases hw : s.dropWhile (· == 32) with
    | nil =>
      rw [words_nil hw] at h
      cases h
      cases hx
    | cons c r =>
      cases h1 : word1 (c :: r) with
      | none => rw [words_none hw h1] at h; cases h
      | some p =>
        obtain ⟨v, t⟩ := p
        rw [words_some hw h1, Option.map_eq_some_iff] at h
        obtain ⟨M, hM, rfl⟩ := h
        obtain ⟨e, hne⟩ := word1_len h1
        have hl := congrArg List.length e
        rw [List.length_append] at hl
        have hvp := List.length_pos_iff.2 hne
        rw [hw] at hd
        rcases List.mem_cons.1 hx with rfl | hx
        · refine ⟨by omega, fun h34 => ?_⟩
          rw [word1_cons] at h1
          split at h1
          · cases hq : qE r with
            | none => rw [hq] at h1; cases h1
            | some k =>
              rw [hq] at h1
              simp only at h1
              have hk := (qE_lt r k hq).1
              split at h1
              · cases h1
                rw [List.length_cons, List.length_take]
                omega
              · cases h1
          · rename_i hc
            cases h1
            simp only [List.head?_cons, Option.some.injEq] at h34
            exact absurd h34 hc
        · have := ih t M (by omega) hM x hx
          exact ⟨by omega, this.2⟩
/-- where a word that is not quoted ends -/
theorem idx_blank : ∀ (l : List UInt8), Lib.indexByte (l ++ [32]) 32 = ((l.takeWhile (· != 32)).length : Int)
  | [] => rfl
  | c :: l => by
    rw [List.cons_append, Lib.indexByte, List.takeWhile_cons]
    by_cases h : c = 32
    · subst h
      rfl
    · rw [if_neg (show ¬ (c == 32) = true by simpa using h), if_pos (show (c != 32) = true by simpa using h), idx_blank l, if_neg (by rw [beq_iff_eq]; omega), List.length_cons]
      omega
theorem tw_facts : ∀ (l : List UInt8), (∀ j, j < (l.takeWhile (· != 32)).length → l[j]? ≠ some 32) ∧ ((l.takeWhile (· != 32)).length = l.length ∨ l[(l.takeWhile (· != 32)).length]? = some 32)
  | [] => ⟨fun j hj => absurd hj (by simp), .inl rfl⟩
  | c :: l => by
    obtain ⟨h1, h2⟩ := tw_facts l
    rw [List.takeWhile_cons]
    by_cases h : c = 32
    · subst h
      exact ⟨fun j hj => absurd hj (by simp), .inr rfl⟩
    · rw [if_pos (by simpa using h), List.length_cons]
      refine ⟨fun j hj => ?_, ?_⟩
      · cases j with
        | zero => simpa using h
        | succ j => rw [List.getElem?_cons_succ]; exact h1 j (by omega)
      · rcases h2 with h2 | h2
        · exact .inl (by rw [h2, List.length_cons])
        · exact .inr (by rw [List.getElem?_cons_succ]; exact h2)
/-- a word that is not quoted, at the beginning -/
theorem words_first {l : List UInt8} {c : UInt8} (h : l[0]? = some c) (h32 : c ≠ 32) (h34 : c ≠ 34) :
    wordsL l = (wordsL (l.drop (l.takeWhile (· != 32)).length)).map (l.take (l.takeWhile (· != 32)).length :: ·) := by
  obtain ⟨h1, h2⟩ := tw_facts l
  have hp : 0 < (l.takeWhile (· != 32)).length := by
    cases l with
    | nil => cases h
    | cons d l =>
      simp only [List.getElem?_cons_zero, Option.some.injEq] at h
      subst h
      rw [List.takeWhile_cons, if_pos (by simpa using h32)]
      simp
  have := words_word (s := l) (k := 0) (m := (l.takeWhile (· != 32)).length) h h32 h34 hp (List.takeWhile_sublist _).length_le (fun j _ hj => h1 j hj) h2
  rwa [List.drop_zero, Nat.sub_zero] at this
/-- a byte's place -/
theorem idx_nat : ∀ (l : List UInt8) (c : UInt8), Lib.indexByte l c = if c ∈ l then ((l.takeWhile (· != c)).length : Int) else -1
  | [], c => by simp [Lib.indexByte]
  | b :: l, c => by
    rw [Lib.indexByte, List.takeWhile_cons]
    by_cases h : b = c
    · subst h
      simp
    · rw [if_neg (show ¬ (b == c) = true by simpa using h), if_pos (show (b != c) = true by simpa using h), idx_nat l c]
      by_cases hm : c ∈ l
      · rw [if_pos hm, if_pos (List.mem_cons_of_mem _ hm), if_neg (by rw [beq_iff_eq]; omega), List.length_cons]
        omega
      · rw [if_neg hm, if_neg (fun e => (List.mem_cons.1 e).elim (fun e => h e.symm) hm), if_pos (by rfl)]
theorem drop_tw : ∀ (l : List UInt8) (c : UInt8), l.drop (l.takeWhile (· != c)).length = l.dropWhile (· != c)
  | [], _ => rfl
  | b :: l, c => by
    rw [List.takeWhile_cons, List.dropWhile_cons]
    by_cases h : (b != c) = true
    · rw [if_pos h, if_pos h, List.length_cons, List.drop_succ_cons, drop_tw l c]
    · rw [if_neg h, if_neg h]
      rfl
theorem take_tw : ∀ (l : List UInt8) (c : UInt8), l.take (l.takeWhile (· != c)).length = l.takeWhile (· != c)
  | [], _ => rfl
  | b :: l, c => by
    rw [List.takeWhile_cons]
    by_cases h : (b != c) = true
    · rw [if_pos h, List.length_cons, List.take_succ_cons, take_tw l c]
    · rw [if_neg h]
      rfl
/-- cut at a colon -/
theorem cut_colon (l : List UInt8) : Lib.cut l [58] = (match l.dropWhile (· != 58) with
    | [] => (l, [], false)
    | _ :: b => (l.takeWhile (· != 58), b, true)) := by
  unfold Lib.cut
  rw [Lib.index_one, idx_nat]
  by_cases h : (58 : UInt8) ∈ l
  · rw [if_pos h, if_pos (Int.natCast_nonneg _), Int.toNat_natCast, take_tw]
    have e := drop_tw l 58
    cases hd : l.dropWhile (· != 58) with
    | nil =>
      exfalso
      have ht := List.takeWhile_append_dropWhile (p := fun x : UInt8 => x != 58) (l := l)
      rw [hd, List.append_nil] at ht
      rw [← ht] at h
      have := List.all_takeWhile (p := fun x : UInt8 => x != 58) (l := l)
      rw [List.all_eq_true] at this
      have := this _ h
      simp at this
    | cons b r =>
      rw [hd] at e
      simp only
      rw [show [(58 : UInt8)].length = 1 from rfl, ← List.drop_drop, e]
      rfl
  · rw [if_neg h, if_neg (by decide)]
    cases hd : l.dropWhile (· != 58) with
    | nil => rfl
    | cons b r =>
      exfalso
      have := List.head?_dropWhile_not (fun x : UInt8 => x != 58) l
      rw [hd] at this
      simp only [List.head?_cons] at this
      have hb : b = 58 := by simpa using this
      apply h
      have hm : b ∈ l.dropWhile (· != 58) := by rw [hd]; simp
      rw [← hb]
      exact (List.dropWhile_sublist _).mem hm
theorem fate_cut (l : List UInt8) : fateL l = if (Lib.cut l [58]).2.2 = true then (match Wk.wholeL (Lib.cut l [58]).1, Wk.wholeL (Lib.cut l [58]).2.1 with
    | some x, some y => if 0 ≤ y ∧ y < 256 then some (x, y) else none
    | _, _ => none) else none := by
  rw [cut_colon]
  unfold fateL
  cases l.dropWhile (· != 58) with
  | nil => rfl
  | cons b r => rfl
/-- the number, as Atoi and Itoa find it -/
theorem whole_atoi (l : List UInt8) : Wk.wholeL l = (match Lib.atoiAll l with
    | .ok v => if Lib.itoa v = l then some v else none
    | _ => none) := by
  unfold Wk.wholeL
  rw [Lib.parseIntB_64]
  cases Lib.atoiAll l <;> rfl
/-- the sixteen digits -/
def hexs : List UInt8 := [48, 49, 50, 51, 52, 53, 54, 55, 56, 57, 97, 98, 99, 100, 101, 102]
theorem hexs_digit (c : UInt8) : hexs.contains c = (digit c).isSome := by
  have h : ∀ n : Nat, n < 256 → hexs.contains (UInt8.ofNat n) = (digit (UInt8.ofNat n)).isSome := by decide +kernel
  have := h c.toNat c.toNat_lt
  rwa [UInt8.ofNat_toNat] at this
theorem trim_two (a b : UInt8) : (Lib.trimS [a, b] hexs).isEmpty = ((digit a).isSome && (digit b).isSome) := by
  rw [← hexs_digit, ← hexs_digit]
  unfold Lib.trimS Lib.trimLeftS Lib.trimRightS
  have hr : [a, b].reverse = [b, a] := rfl
  rw [hr, List.dropWhile_cons, List.dropWhile_cons]
  cases ha : hexs.contains a <;> cases hb : hexs.contains b <;> simp_all [List.dropWhile]
/-- what a digit says, by its kind -/
theorem digit_cases {c : UInt8} {x : Nat} (h : digit c = some x) : x < 16 ∧ ((48 ≤ c.toNat ∧ c.toNat ≤ 57 ∧ x = c.toNat - 48) ∨ (97 ≤ c.toNat ∧ c.toNat ≤ 102 ∧ x = c.toNat - 87)) := by
  unfold digit at h
  split at h
  · rename_i h1
    cases h
    have a1 := UInt8.le_iff_toNat_le.1 h1.1
    have a2 := UInt8.le_iff_toNat_le.1 h1.2
    have e1 : (48 : UInt8).toNat = 48 := rfl
    have e2 : (57 : UInt8).toNat = 57 := rfl
    exact ⟨by omega, .inl ⟨by omega, by omega, rfl⟩⟩
  · split at h
    · rename_i h1
      cases h
      have a1 := UInt8.le_iff_toNat_le.1 h1.1
      have a2 := UInt8.le_iff_toNat_le.1 h1.2
      have e1 : (97 : UInt8).toNat = 97 := rfl
      have e2 : (102 : UInt8).toNat = 102 := rfl
      exact ⟨by omega, .inr ⟨by omega, by omega, rfl⟩⟩
    · cases h
end Go.Proofs.YtakccaldcolbmaaGreatDoor.Pln
