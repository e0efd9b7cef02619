/- Plain facts of chapter 4: rows and numbers stand as their bytes do. -/
import Derived.Test.YtokphfpjgmmklaaDoorKeyBackP
namespace Go.Proofs.YtokphfpjgmmklaaDoor.Pk
open Go Go.RowKit

theorem less_irrefl : ∀ l : List UInt8, Op.bytesLess l l = false
  | [] => rfl
  | a :: l => by
    unfold Op.bytesLess
    rw [less_irrefl l]
    simp
theorem less_append : ∀ (x p q : List UInt8), Op.bytesLess (x ++ p) (x ++ q) = Op.bytesLess p q
  | [], p, q => rfl
  | a :: x, p, q => by
    rw [List.cons_append, List.cons_append, Op.bytesLess, less_append x p q]
    simp
theorem zero_lt (d : UInt8) (h : d ≠ 0) : (0 : UInt8) < d := by
  rw [UInt8.lt_iff_toNat_lt]
  have : d.toNat ≠ 0 := fun e => h (UInt8.toNat_inj.1 e)
  show (0 : UInt8).toNat < d.toNat
  have : (0 : UInt8).toNat = 0 := rfl
  omega
theorem not_lt_zero (d : UInt8) : ¬ d < (0 : UInt8) := by
  rw [UInt8.lt_iff_toNat_lt]
  have : (0 : UInt8).toNat = 0 := rfl
  omega
theorem less_put : ∀ (a b m o : List UInt8), a ≠ b → Op.bytesLess (putG a ++ 0 :: 0 :: m) (putG b ++ 0 :: 0 :: o) = Op.bytesLess a b
  | [], [], _, _, h => absurd rfl h
  | [], d :: t, m, o, _ => by
    unfold putG putC
    by_cases hd : d = 0
    · subst hd
      rw [if_pos rfl]
      show Op.bytesLess (0 :: 0 :: m) (0 :: 255 :: (putG t ++ 0 :: 0 :: o)) = true
      simp [Op.bytesLess]
    · rw [if_neg hd]
      show Op.bytesLess (0 :: 0 :: m) (d :: (putG t ++ 0 :: 0 :: o)) = true
      simp [Op.bytesLess, zero_lt d hd]
  | c :: s, [], m, o, _ => by
    unfold putG putC
    by_cases hc : c = 0
    · subst hc
      rw [if_pos rfl]
      show Op.bytesLess (0 :: 255 :: (putG s ++ 0 :: 0 :: m)) (0 :: 0 :: o) = false
      simp [Op.bytesLess]
    · rw [if_neg hc]
      show Op.bytesLess (c :: (putG s ++ 0 :: 0 :: m)) (0 :: 0 :: o) = false
      simp [Op.bytesLess, not_lt_zero c, hc]
  | c :: s, d :: t, m, o, h => by
    by_cases hcd : c = d
    · subst hcd
      have hst : s ≠ t := fun e => h (by rw [e])
      rw [putG, putG, List.append_assoc, List.append_assoc, less_append, less_put s t m o hst, Op.bytesLess]
      simp
    · rw [putG, putG, Op.bytesLess]
      unfold putC
      by_cases hc : c = 0
      · subst hc
        have hd : d ≠ 0 := fun e => hcd e.symm
        rw [if_pos rfl, if_neg hd]
        show Op.bytesLess (0 :: 255 :: (putG s ++ 0 :: 0 :: m)) (d :: (putG t ++ 0 :: 0 :: o)) = _
        simp [Op.bytesLess, zero_lt d hd]
      · rw [if_neg hc]
        by_cases hd : d = 0
        · subst hd
          rw [if_pos rfl]
          show Op.bytesLess (c :: (putG s ++ 0 :: 0 :: m)) (0 :: 255 :: (putG t ++ 0 :: 0 :: o)) = _
          have hb : (c == 0) = false := beq_eq_false_iff_ne.2 hc
          simp [Op.bytesLess, not_lt_zero c, hb]
        · rw [if_neg hd]
          show Op.bytesLess (c :: (putG s ++ 0 :: 0 :: m)) (d :: (putG t ++ 0 :: 0 :: o)) = _
          have hb : (c == d) = false := beq_eq_false_iff_ne.2 hcd
          simp [Op.bytesLess, hb]
theorem less_putL (a b m o : List UInt8) (h : a ≠ b) : Op.bytesLess (putL a ++ m) (putL b ++ o) = Op.bytesLess a b := by
  unfold putL
  rw [List.append_assoc, List.append_assoc]
  exact less_put a b m o h
theorem less_rows (a b : List UInt8) : Op.bytesLess (putL a) (putL b) = Op.bytesLess a b := by
  by_cases h : a = b
  · subst h; rw [less_irrefl, less_irrefl]
  · have := less_putL a b [] [] h
    rwa [List.append_nil, List.append_nil] at this
theorem putL_inj {a b m o : List UInt8} (h : putL a ++ m = putL b ++ o) : a = b := by
  have h1 := get_putL a m
  rw [h, get_putL b o] at h1
  injection h1 with h1
  injection h1 with h1 _
  exact h1.symm
theorem eq_rows (a b : List UInt8) : (putL a == putL b) = (a == b) := by
  rw [Bool.eq_iff_iff, beq_iff_eq, beq_iff_eq]
  constructor
  · intro h
    have : putL a ++ [] = putL b ++ [] := by rw [h]
    exact putL_inj this
  · intro h; rw [h]
theorem not_prefix {a b : List UInt8} (h : a ≠ b) : (putL a).isPrefixOf (putL b) = false := by
  cases hp : (putL a).isPrefixOf (putL b) with
  | false => rfl
  | true =>
    obtain ⟨t, ht⟩ := List.isPrefixOf_iff_prefix.1 hp
    exact absurd (putL_inj (ht.trans (List.append_nil _).symm)) h
theorem be_mono : ∀ (l k : List UInt8) (x y : Nat), l.length = k.length → x < y → be8 x l < be8 y k
  | [], [], x, y, _, h => h
  | [], _ :: _, _, _, h, _ => by simp at h
  | _ :: _, [], _, _, h, _ => by simp at h
  | c :: l, d :: k, x, y, h, hxy => by
    have hc := c.toNat_lt
    have hd := d.toNat_lt
    exact be_mono l k (256 * x + c.toNat) (256 * y + d.toNat) (by simpa using h) (by omega)
theorem less_be : ∀ (l k m o : List UInt8) (x : Nat), l.length = k.length → l ≠ k → Op.bytesLess (l ++ m) (k ++ o) = decide (be8 x l < be8 x k)
  | [], [], _, _, _, _, h => absurd rfl h
  | [], _ :: _, _, _, _, h, _ => by simp at h
  | _ :: _, [], _, _, _, h, _ => by simp at h
  | c :: l, d :: k, m, o, x, h, hne => by
    have hlen : l.length = k.length := by simpa using h
    rw [List.cons_append, List.cons_append, Op.bytesLess]
    show _ = decide (be8 (256 * x + c.toNat) l < be8 (256 * x + d.toNat) k)
    by_cases hcd : c = d
    · subst hcd
      rw [less_be l k m o (256 * x + c.toNat) hlen (fun e => hne (by rw [e]))]
      simp
    · have hn : c.toNat ≠ d.toNat := fun e => hcd (UInt8.toNat_inj.1 e)
      have hb : (c == d) = false := by simpa using hcd
      rw [hb, Bool.false_and, Bool.or_false]
      rcases Nat.lt_or_ge c.toNat d.toNat with hlt | hge
      · have h1 := be_mono l k (256 * x + c.toNat) (256 * x + d.toNat) hlen (by omega)
        rw [decide_eq_true h1, decide_eq_true (UInt8.lt_iff_toNat_lt.2 hlt)]
      · have h1 := be_mono k l (256 * x + d.toNat) (256 * x + c.toNat) hlen.symm (by omega)
        rw [decide_eq_false (by rw [UInt8.lt_iff_toNat_lt]; omega), decide_eq_false (by omega)]
theorem putInt_inj {n k : Int} (h0 : -9223372036854775808 ≤ n) (h1 : n ≤ 9223372036854775807) (k0 : -9223372036854775808 ≤ k) (k1 : k ≤ 9223372036854775807) (h : putInt n = putInt k) : n = k := by
  have e1 := get_int n [] h0 h1
  have e2 := get_int k [] k0 k1
  rw [h, e2] at e1
  exact e1.symm
theorem less_ints {n k : Int} (m o : List UInt8) (h0 : -9223372036854775808 ≤ n) (h1 : n ≤ 9223372036854775807) (k0 : -9223372036854775808 ≤ k) (k1 : k ≤ 9223372036854775807) (h : n ≠ k) :
    Op.bytesLess (putInt n ++ m) (putInt k ++ o) = decide (n < k) := by
  rw [less_be (putInt n) (putInt k) m o 0 rfl (fun e => h (putInt_inj h0 h1 k0 k1 e))]
  unfold putInt
  rw [be_u8L _ (by unfold offN; omega), be_u8L _ (by unfold offN; omega)]
  unfold offN
  rw [decide_eq_decide]
  omega
theorem less_nums {n k : Int} (h0 : -9223372036854775808 ≤ n) (h1 : n ≤ 9223372036854775807) (k0 : -9223372036854775808 ≤ k) (k1 : k ≤ 9223372036854775807) :
    Op.bytesLess (putInt n) (putInt k) = decide (n < k) := by
  by_cases h : n = k
  · subst h; rw [less_irrefl, decide_eq_false (by omega)]
  · have := less_ints [] [] h0 h1 k0 k1 h
    rwa [List.append_nil, List.append_nil] at this
theorem eq_nums {n k : Int} (h0 : -9223372036854775808 ≤ n) (h1 : n ≤ 9223372036854775807) (k0 : -9223372036854775808 ≤ k) (k1 : k ≤ 9223372036854775807) :
    (putInt n == putInt k) = (n == k) := by
  rw [Bool.eq_iff_iff, beq_iff_eq, beq_iff_eq]
  exact ⟨fun h => putInt_inj h0 h1 k0 k1 h, fun h => by rw [h]⟩
end Go.Proofs.YtokphfpjgmmklaaDoor.Pk
