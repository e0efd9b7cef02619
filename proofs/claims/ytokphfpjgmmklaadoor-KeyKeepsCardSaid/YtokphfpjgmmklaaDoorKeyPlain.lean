/- Plain facts of chapter 4: numbers and rows as keys. -/
import Derived.Test.YtokphfpjgmmklaaDoorChecked
import Derived.WalkKit
namespace Go.Proofs.YtokphfpjgmmklaaDoor.Pk
open Go Go.RowKit

/-- a row's bytes -/
def putC (c : UInt8) : List UInt8 := if c = 0 then [0, 255] else [c]
def putG : List UInt8 → List UInt8
  | [] => []
  | c :: t => putC c ++ putG t
def putL (l : List UInt8) : List UInt8 := putG l ++ [0, 0]
theorem putG_append : ∀ l m, putG (l ++ m) = putG l ++ putG m
  | [], _ => rfl
  | c :: l, m => by simp only [List.cons_append, putG, putG_append l m, List.append_assoc]
theorem putC_length (c : UInt8) : 1 ≤ (putC c).length ∧ (putC c).length ≤ 2 := by unfold putC; split <;> simp
theorem putG_length : ∀ l, l.length ≤ (putG l).length ∧ (putG l).length ≤ 2 * l.length
  | [] => by simp [putG]
  | c :: l => by
    have h1 := putC_length c
    have h2 := putG_length l
    simp only [putG, List.length_append, List.length_cons]
    omega
theorem putL_length (l : List UInt8) : (putL l).length ≤ 2 * l.length + 2 := by
  have := putG_length l
  simp only [putL, List.length_append, List.length_cons, List.length_nil]
  omega
/-- the row that bytes begin with, and how many go by -/
def getF : Nat → List UInt8 → Option (List UInt8 × Nat)
  | 0, _ => none
  | _ + 1, [] => none
  | _ + 1, [_] => none
  | n + 1, a :: b :: r =>
    if a ≠ 0 then (getF n (b :: r)).map fun x => (a :: x.1, x.2 + 1)
    else if b = 0 then some ([], 2)
    else if b = 255 then (getF n r).map fun x => (0 :: x.1, x.2 + 2)
    else none
def getL (l : List UInt8) : Option (List UInt8 × Nat) := getF l.length l
theorem getF_fuel : ∀ (n m : Nat) (l : List UInt8), l.length ≤ n → l.length ≤ m → getF n l = getF m l
  | 0, m, l, hn, _ => by
    have : l = [] := List.eq_nil_of_length_eq_zero (by omega)
    subst this
    cases m <;> rfl
  | n + 1, 0, l, _, hm => by
    have : l = [] := List.eq_nil_of_length_eq_zero (by omega)
    subst this
    rfl
  | n + 1, m + 1, [], _, _ => rfl
  | n + 1, m + 1, [_], _, _ => rfl
  | n + 1, m + 1, a :: b :: r, hn, hm => by
    simp only [List.length_cons] at hn hm
    simp only [getF, getF_fuel n m (b :: r) (by simp only [List.length_cons]; omega) (by simp only [List.length_cons]; omega), getF_fuel n m r (by omega) (by omega)]
theorem getL_nil : getL [] = none := rfl
theorem getL_one (a : UInt8) : getL [a] = none := rfl
theorem getL_step (a b : UInt8) (r : List UInt8) : getL (a :: b :: r) = if a ≠ 0 then (getL (b :: r)).map fun x => (a :: x.1, x.2 + 1) else if b = 0 then some ([], 2) else if b = 255 then (getL r).map fun x => (0 :: x.1, x.2 + 2) else none := by
  unfold getL
  simp only [List.length_cons, getF]
  rw [getF_fuel (r.length + 1) r.length r (by omega) (by omega)]
theorem getL_len : ∀ (n : Nat) (l : List UInt8), l.length ≤ n → ∀ x, getL l = some x → x.1.length ≤ l.length ∧ x.2 ≤ l.length
  | _, [], _, x, h => by simp [getL_nil] at h
  | _, [a], _, x, h => by simp [getL_one] at h
  | 0, a :: b :: r, hn, _, _ => by simp at hn
  | n + 1, a :: b :: r, hn, x, h => by
    simp only [List.length_cons] at hn
    rw [getL_step] at h
    split at h
    · obtain ⟨y, hy, rfl⟩ := Option.map_eq_some_iff.1 h
      have := getL_len n (b :: r) (by simp only [List.length_cons]; omega) y hy
      simp only [List.length_cons] at this ⊢
      omega
    · split at h
      · cases h
        simp
      · split at h
        · obtain ⟨y, hy, rfl⟩ := Option.map_eq_some_iff.1 h
          have := getL_len n r (by omega) y hy
          simp only [List.length_cons] at this ⊢
          omega
        · cases h

/-- a number's bytes: the eight of an unsigned one, the greatest first -/
def u8L (u : Nat) : List UInt8 := [(u / 72057594037927936).toUInt8, (u / 281474976710656).toUInt8, (u / 1099511627776).toUInt8, (u / 4294967296).toUInt8, (u / 16777216).toUInt8, (u / 65536).toUInt8, (u / 256).toUInt8, u.toUInt8]
def offN (n : Int) : Nat := (n + 9223372036854775808).toNat
def putInt (n : Int) : List UInt8 := u8L (offN n)
def be8 : Nat → List UInt8 → Nat
  | acc, [] => acc
  | acc, c :: t => be8 (256 * acc + c.toNat) t
def getInt (l : List UInt8) : Int := (be8 0 (l.take 8) : Int) - 9223372036854775808
end Go.Proofs.YtokphfpjgmmklaaDoor.Pk
