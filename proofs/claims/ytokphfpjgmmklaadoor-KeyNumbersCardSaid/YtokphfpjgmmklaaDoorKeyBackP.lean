/- Plain facts of chapter 4: what is put is got, and what is got is put. -/
import Derived.Test.YtokphfpjgmmklaaDoorKeyWalksF
namespace Go.Proofs.YtokphfpjgmmklaaDoor.Pk
open Go Go.RowKit

theorem get_put : ∀ (a m : List UInt8), getL (putG a ++ 0 :: 0 :: m) = some (a, (putG a).length + 2)
  | [], m => by
    rw [putG, List.nil_append, getL_step, if_neg (by decide), if_pos rfl]
    rfl
  | c :: t, m => by
    have ih := get_put t m
    unfold putG putC
    by_cases h : c = 0
    · subst h
      rw [if_pos rfl]
      show getL (0 :: 255 :: (putG t ++ 0 :: 0 :: m)) = _
      rw [getL_step, if_neg (by decide), if_neg (by decide), if_pos rfl, ih]
      simp
    · rw [if_neg h, List.cons_append, List.nil_append, List.cons_append]
      obtain ⟨b, r, hr⟩ : ∃ b r, putG t ++ 0 :: 0 :: m = b :: r := by
        cases hg : putG t ++ 0 :: 0 :: m with
        | nil => simp at hg
        | cons b r => exact ⟨b, r, rfl⟩
      rw [hr] at ih ⊢
      rw [getL_step, if_pos h, ih]
      simp
theorem get_putL (a m : List UInt8) : getL (putL a ++ m) = some (a, (putL a).length) := by
  unfold putL
  rw [List.append_assoc, List.cons_append, List.cons_append, List.nil_append, get_put]
  simp
theorem put_get : ∀ (n : Nat) (l : List UInt8), l.length ≤ n → ∀ x, getL l = some x → x.2 ≤ l.length ∧ putL x.1 = l.take x.2
  | _, [], _, x, h => by simp [getL_nil] at h
  | _, [a], _, x, h => by simp [getL_one] at h
  | 0, a :: b :: r, hn, _, _ => by simp at hn
  | n + 1, a :: b :: r, hn, x, h => by
    simp only [List.length_cons] at hn
    rw [getL_step] at h
    split at h
    · rename_i h0
      obtain ⟨y, hy, rfl⟩ := Option.map_eq_some_iff.1 h
      have := put_get n (b :: r) (by simp only [List.length_cons]; omega) y hy
      simp only [List.length_cons] at this ⊢
      refine ⟨by omega, ?_⟩
      have h2 := this.2
      unfold putL at h2 ⊢
      simp only [putG, putC, if_neg h0, List.cons_append, List.nil_append, List.take_succ_cons, h2]
    · rename_i h0
      have h0 : a = 0 := Classical.not_not.1 h0
      subst h0
      split at h
      · rename_i hb
        subst hb
        cases h
        refine ⟨by simp, by simp [putL, putG]⟩
      · split at h
        · rename_i hb
          subst hb
          obtain ⟨y, hy, rfl⟩ := Option.map_eq_some_iff.1 h
          have := put_get n r (by omega) y hy
          simp only [List.length_cons] at this ⊢
          refine ⟨by omega, ?_⟩
          have h2 := this.2
          unfold putL at h2 ⊢
          simp only [putG, putC, if_true, List.cons_append, List.nil_append, List.take_succ_cons, h2]
        · cases h
theorem be_u8L (U : Nat) (h : U < 18446744073709551616) : be8 0 (u8L U) = U := by
  have tb : ∀ k : Nat, (k.toUInt8).toNat = k % 256 := fun k => by simp [Nat.toUInt8]
  simp only [u8L, be8, tb]
  omega
theorem get_int (n : Int) (m : List UInt8) (h0 : -9223372036854775808 ≤ n) (h1 : n ≤ 9223372036854775807) : getInt (putInt n ++ m) = n := by
  have e : (putInt n ++ m).take 8 = putInt n := by
    have hl : (putInt n).length = 8 := rfl
    rw [← hl, List.take_left]
  unfold getInt
  rw [e]
  unfold putInt
  rw [be_u8L _ (by unfold offN; omega)]
  unfold offN
  omega
theorem get_i (n : Int) (m : List UInt8) (h0 : -9223372036854775808 ≤ n) (h1 : n ≤ 9223372036854775807) : Wk.getI (putInt n ++ m) = (n, 8) := by
  unfold Wk.getI
  have hl : (putInt n).length = 8 := rfl
  rw [if_pos (by rw [List.length_append]; omega), get_int n m h0 h1]
end Go.Proofs.YtokphfpjgmmklaaDoor.Pk
