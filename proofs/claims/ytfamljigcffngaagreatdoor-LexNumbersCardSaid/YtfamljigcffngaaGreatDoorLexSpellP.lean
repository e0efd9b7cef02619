/- Plain: quotes doubled are quotes replaced. -/
import Derived.Test.YtfamljigcffngaaGreatDoorLexPlain
import Derived.Lib.CountLaws
namespace Go.Proofs.YtfamljigcffngaaGreatDoor.Plx
open Go Go.Lib

theorem dbl_cons (c : UInt8) (l : List UInt8) : dbl (c :: l) = (if c = 34 then [34, 34] else [c]) ++ dbl l := rfl
theorem index_hd (l : List UInt8) : index (34 :: l) [34] = 0 := by
  unfold index
  simp [List.isPrefixOf]
theorem index_tl (b : UInt8) (l : List UInt8) (h : b ≠ 34) : index (b :: l) [34] = if index l [34] == -1 then -1 else index l [34] + 1 := by
  rw [index]
  have : ([34] : List UInt8).isPrefixOf (b :: l) = false := by
    simp only [List.isPrefixOf, Bool.and_true]
    exact beq_eq_false_iff_ne.2 fun e => h e.symm
  rw [this]
  rfl
theorem replace_dbl : ∀ (l : List UInt8) (k : Nat), count l [34] ≤ k → replaceK [34] [34, 34] k l = dbl l
  | [], k, _ => by
    cases k with
    | zero => rfl
    | succ k => simp [replaceK, index, dbl]
  | b :: l, k, hk => by
    rw [dbl_cons]
    by_cases h : b = 34
    · subst h
      have hc : count (34 :: l) [34] = 1 + count l [34] := count_hit (i := 0) (by simp) (index_hd l)
      obtain ⟨k, rfl⟩ : ∃ j, k = j + 1 := ⟨k - 1, by omega⟩
      rw [replaceK, index_hd, if_neg (by decide), if_pos rfl]
      have := replace_dbl l k (by omega)
      show [] ++ [34, 34] ++ replaceK [34] [34, 34] k l = _
      rw [this]
      rfl
    · rw [if_neg h]
      rcases Int.lt_or_le (index l [34]) 0 with hneg | hpos
      · have hm : index l [34] = -1 := by have := index_ge l [34]; omega
        have h0 := replace_dbl l 0 (by rw [count_miss hm]; exact Nat.le_refl _)
        have hm2 : index (b :: l) [34] = -1 := by rw [index_tl b l h, hm]; rfl
        rw [← h0]
        cases k with
        | zero => rfl
        | succ k => simp only [replaceK, hm2]; rfl
      · obtain ⟨i, hi⟩ : ∃ i : Nat, index l [34] = i := ⟨(index l [34]).toNat, by omega⟩
        have hi2 : index (b :: l) [34] = (i + 1 : Nat) := by
          rw [index_tl b l h, hi, if_neg (by simp)]
          omega
        have c1 := count_hit (sub := [34]) (by simp) hi
        have c2 := count_hit (sub := [34]) (by simp) hi2
        have c3 : count (b :: l) [34] = count l [34] := by rw [c1, c2]; rfl
        have ih := replace_dbl l k (by omega)
        rw [← ih]
        obtain ⟨k, rfl⟩ : ∃ j, k = j + 1 := ⟨k - 1, by omega⟩
        rw [replaceK, replaceK, hi, hi2, if_neg (by rw [beq_iff_eq]; omega), if_neg (by rw [beq_iff_eq]; omega)]
        rfl
theorem replaceAll_dbl (l : List UInt8) : replaceAll l [34] [34, 34] = dbl l := by
  unfold replaceAll replace replaceNum
  rw [if_neg (by decide), if_pos (.inl (by decide))]
  exact replace_dbl l _ (Nat.le_refl _)
theorem dbl_length (l : List UInt8) : (dbl l).length ≤ 2 * l.length := by
  induction l with
  | nil => simp [dbl]
  | cons c l ih =>
    rw [dbl_cons, List.length_append, List.length_cons]
    split <;> simp <;> omega
end Go.Proofs.YtfamljigcffngaaGreatDoor.Plx
