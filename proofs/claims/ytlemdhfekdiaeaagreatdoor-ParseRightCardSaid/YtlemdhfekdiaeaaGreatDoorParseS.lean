/- Plain: strings.ReplaceAll, step by step; line ends made one. -/
import Derived.Test.YtlemdhfekdiaeaaGreatDoorParseP
import Derived.Lib.Replace
import Derived.Lib.IndexLaws
import Derived.Lib.CountLaws
import Derived.Lib.ReplaceLaws
import Derived.Lib.IndexMore
namespace Go.Proofs.YtlemdhfekdiaeaaGreatDoor.Ppa
open Go Go.Lib Go.Proofs.YtlemdhfekdiaeaaGreatDoor.Ptr

def repF (old new : Bs) : Nat → Bs → Bs
  | 0, l => l
  | _ + 1, [] => []
  | f + 1, b :: l => if old.isPrefixOf (b :: l) = true then new ++ repF old new f ((b :: l).drop old.length) else b :: repF old new f l
theorem index_pre {old : Bs} {b : UInt8} {l : Bs} (h : old.isPrefixOf (b :: l) = true) : index (b :: l) old = ((0 : Nat) : Int) := by
  unfold index
  rw [if_pos h]
  rfl
theorem index_not {old : Bs} {b : UInt8} {l : Bs} (h : ¬ old.isPrefixOf (b :: l) = true) : index (b :: l) old = if index l old = -1 then -1 else index l old + 1 := by
  rw [index, if_neg h]
  by_cases h1 : index l old = -1
  · simp [h1]
  · simp [h1]
theorem replace_gen (old new : Bs) (ho : old ≠ []) : ∀ (f : Nat) (l : Bs) (k : Nat), l.length ≤ f → count l old ≤ k → replaceK old new k l = repF old new f l
  | 0, l, k, hf, _ => by
    have : l = [] := List.eq_nil_of_length_eq_zero (by omega)
    subst this
    cases k with
    | zero => rfl
    | succ k =>
      have : index [] old = -1 := by unfold index; cases old with | nil => exact absurd rfl ho | cons _ _ => rfl
      simp [replaceK, this, repF]
  | f + 1, [], k, _, _ => by
    cases k with
    | zero => rfl
    | succ k =>
      have : index [] old = -1 := by unfold index; cases old with | nil => exact absurd rfl ho | cons _ _ => rfl
      simp [replaceK, this, repF]
  | f + 1, b :: l, k, hf, hk => by
    rw [repF]
    have hpos := List.length_pos_iff.2 ho
    by_cases h : old.isPrefixOf (b :: l) = true
    · have hi := index_pre h
      have hc := count_hit ho hi
      rw [Nat.zero_add] at hc
      obtain ⟨k, rfl⟩ : ∃ j, k = j + 1 := ⟨k - 1, by omega⟩
      rw [replaceK_hit old new k _ 0 hi, if_pos h, Nat.zero_add]
      rw [replace_gen old new ho f _ k (by rw [List.length_drop]; simp only [List.length_cons] at hf ⊢; omega) (by omega)]
      rfl
    · rw [if_neg h]
      have hn := index_not h
      by_cases h1 : index l old = -1
      · rw [if_pos h1] at hn
        have h0 := replace_gen old new ho f l 0 (by simp at hf; omega) (by rw [count_miss h1]; exact Nat.le_refl _)
        rw [← h0]
        cases k with
        | zero => rfl
        | succ k => simp only [replaceK, hn]; rfl
      · rw [if_neg h1] at hn
        have hge := index_ge l old
        obtain ⟨i, hi⟩ : ∃ i : Nat, index l old = i := ⟨(index l old).toNat, by omega⟩
        have hi2 : index (b :: l) old = ((i + 1 : Nat) : Int) := by rw [hn, hi]; omega
        have c1 := count_hit ho hi
        have c2 := count_hit ho hi2
        have c3 : count (b :: l) old = count l old := by
          rw [c1, c2, show i + 1 + old.length = (i + old.length) + 1 by omega]
          rfl
        have ih := replace_gen old new ho f l k (by simp at hf; omega) (by omega)
        rw [← ih]
        obtain ⟨k, rfl⟩ : ∃ j, k = j + 1 := ⟨k - 1, by omega⟩
        rw [replaceK_hit old new k _ _ hi, replaceK_hit old new k _ _ hi2, show i + 1 + old.length = (i + old.length) + 1 by omega]
        rfl
theorem replaceAll_gen (old new l : Bs) (ho : old ≠ []) (hn : (old == new) = false) : replaceAll l old new = repF old new l.length l := by
  unfold replaceAll replace replaceNum
  rw [hn, if_neg (by simp), if_pos (.inl (by decide))]
  exact replace_gen old new ho _ l _ (Nat.le_refl _) (Nat.le_refl _)
def crlf : Bs → Bs
  | [] => []
  | 13 :: 10 :: t => 10 :: crlf t
  | x :: t => x :: crlf t
theorem crlf_two (t : Bs) : crlf (13 :: 10 :: t) = 10 :: crlf t := by rw [crlf]
theorem crlf_one {x : UInt8} {t : Bs} (h : ¬ (x = 13 ∧ t.head? = some 10)) : crlf (x :: t) = x :: crlf t := by
  rw [crlf]
  intro t' hx ht
  exact h ⟨hx, by rw [ht]; rfl⟩
theorem said_two (t : Bs) : said (13 :: 10 :: t) = 10 :: said t := by rw [said]
theorem said_one {t : Bs} (h : t.head? ≠ some 10) : said (13 :: t) = 10 :: said t := by
  rw [said]
  intro t' ht
  exact h (by rw [ht]; rfl)
theorem said_other {x : UInt8} {t : Bs} (h : x ≠ 13) : said (x :: t) = x :: said t := by
  rw [said]
  · intro t' hx _
    exact h hx
  · exact h
theorem repF_crlf : ∀ (f : Nat) (l : Bs), l.length ≤ f → repF [13, 10] [10] f l = crlf l
  | 0, l, hf => by
    have : l = [] := List.eq_nil_of_length_eq_zero (by omega)
    subst this
    rfl
  | f + 1, [], _ => rfl
  | f + 1, x :: t, hf => by
    simp only [List.length_cons] at hf
    rw [repF]
    by_cases h : x = 13 ∧ t.head? = some 10
    · obtain ⟨rfl, h2⟩ := h
      obtain ⟨u, rfl⟩ : ∃ u, t = 10 :: u := by
        cases t with
        | nil => cases h2
        | cons y u => exact ⟨u, by injection h2 with e; rw [e]⟩
      rw [if_pos (by simp [List.isPrefixOf]), crlf_two]
      simp only [List.length_cons] at hf
      show [10] ++ repF [13, 10] [10] f u = _
      rw [repF_crlf f u (by omega)]
      rfl
    · rw [crlf_one h, if_neg, repF_crlf f t (by omega)]
      intro hp
      apply h
      simp only [List.isPrefixOf, Bool.and_eq_true, beq_iff_eq] at hp
      refine ⟨hp.1.symm, ?_⟩
      cases t with
      | nil => simp at hp
      | cons y u => simp at hp; rw [← hp.2]; rfl
theorem repF_cr : ∀ (f : Nat) (l : Bs), l.length ≤ f → repF [13] [10] f l = l.map fun x => if x = 13 then 10 else x
  | 0, l, hf => by
    have : l = [] := List.eq_nil_of_length_eq_zero (by omega)
    subst this
    rfl
  | f + 1, [], _ => rfl
  | f + 1, x :: t, hf => by
    simp only [List.length_cons] at hf
    rw [repF, List.map_cons, ← repF_cr f t (by omega)]
    by_cases h : x = 13
    · subst h
      rw [if_pos (by simp [List.isPrefixOf]), if_pos rfl]
      rfl
    · rw [if_neg h, if_neg]
      simp [List.isPrefixOf]
      exact fun e => h e.symm
theorem crlf_said : ∀ (n : Nat) (l : Bs), l.length ≤ n → (crlf l).map (fun x => if x = 13 then 10 else x) = said l
  | 0, l, hf => by
    have : l = [] := List.eq_nil_of_length_eq_zero (by omega)
    subst this
    rfl
  | n + 1, [], _ => rfl
  | n + 1, x :: t, hf => by
    simp only [List.length_cons] at hf
    by_cases h : x = 13 ∧ t.head? = some 10
    · obtain ⟨rfl, h2⟩ := h
      obtain ⟨u, rfl⟩ : ∃ u, t = 10 :: u := by
        cases t with
        | nil => cases h2
        | cons y u => exact ⟨u, by injection h2 with e; rw [e]⟩
      simp only [List.length_cons] at hf
      rw [crlf_two, said_two, List.map_cons, crlf_said n u (by omega)]
      rfl
    · rw [crlf_one h, List.map_cons, crlf_said n t (by omega)]
      by_cases hx : x = 13
      · subst hx
        rw [if_pos rfl, said_one (fun e => h ⟨rfl, e⟩)]
      · rw [if_neg hx, said_other hx]
theorem said_prog (l : Bs) : replaceAll (replaceAll l [13, 10] [10]) [13] [10] = said l := by
  rw [replaceAll_gen [13, 10] [10] l (by simp) (by decide), replaceAll_gen [13] [10] _ (by simp) (by decide), repF_crlf _ l (Nat.le_refl _), repF_cr _ _ (Nat.le_refl _), crlf_said _ l (Nat.le_refl _)]
theorem repl_crlf (l : Bs) : replaceAll l [13, 10] [10] = crlf l := by
  rw [replaceAll_gen [13, 10] [10] l (by simp) (by decide), repF_crlf _ l (Nat.le_refl _)]
theorem crlf_length : ∀ (n : Nat) (l : Bs), l.length ≤ n → (crlf l).length ≤ l.length
  | 0, l, hf => by
    have : l = [] := List.eq_nil_of_length_eq_zero (by omega)
    subst this
    exact Nat.le_refl _
  | n + 1, [], _ => Nat.le_refl _
  | n + 1, x :: t, hf => by
    simp only [List.length_cons] at hf
    by_cases h : x = 13 ∧ t.head? = some 10
    · obtain ⟨rfl, h2⟩ := h
      obtain ⟨u, rfl⟩ : ∃ u, t = 10 :: u := by
        cases t with
        | nil => cases h2
        | cons y u => exact ⟨u, by injection h2 with e; rw [e]⟩
      simp only [List.length_cons] at hf ⊢
      rw [crlf_two]
      have := crlf_length n u (by omega)
      simp only [List.length_cons]
      omega
    · rw [crlf_one h]
      have := crlf_length n t (by omega)
      simp only [List.length_cons]
      omega
theorem said_length (l : Bs) : (said l).length ≤ l.length := by
  rw [← crlf_said _ l (Nat.le_refl _), List.length_map]
  exact crlf_length _ l (Nat.le_refl _)
end Go.Proofs.YtlemdhfekdiaeaaGreatDoor.Ppa
