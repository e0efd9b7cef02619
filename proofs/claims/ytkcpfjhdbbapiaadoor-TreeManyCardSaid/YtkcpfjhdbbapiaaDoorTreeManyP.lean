/- Plain: rows of many nodes (chapter 06): whether they are right trees. -/
import Derived.Test.YtkcpfjhdbbapiaaDoorTreePlainB
namespace Go.Proofs.YtkcpfjhdbbapiaaDoor.Ptr
open Go

/-- a root, an element, so many comments -/
def wide (m : Nat) : List Nd := (1, [], [], -1) :: (2, [97], [], 0) :: List.replicate m (5, [], [], 1)
theorem wide_len (m : Nat) : (wide m).length = m + 2 := by simp [wide]
theorem wide_get (m k : Nat) (h2 : 2 ≤ k) (hk : k < m + 2) : (wide m).getD k nd0 = (5, [], [], 1) := by
  obtain ⟨j, rfl⟩ : ∃ j, k = j + 2 := ⟨k - 2, by omega⟩
  unfold wide
  rw [List.getD_eq_getElem?_getD, List.getElem?_cons_succ, List.getElem?_cons_succ, List.getElem?_replicate, if_pos (by omega)]
  rfl
theorem wide_kin (m k : Nat) (h2 : 2 ≤ k) (hk : k < m + 2) : kin (wide m) k = 5 ∧ nam (wide m) k = [] ∧ val (wide m) k = [] ∧ par (wide m) k = 1 := by
  unfold kin nam val par
  rw [wide_get m k h2 hk]
  exact ⟨rfl, rfl, rfl, rfl⟩
theorem wide_open (m k : Nat) (hk : k < m + 2) : openB (wide m) k = true := by
  match k with
  | 0 => rfl
  | 1 => rfl
  | k + 2 =>
    unfold openB
    rw [(wide_kin m (k + 2) (by omega) hk).2.2.2, chain_at]
    by_cases h : ((k + 2 : Nat) : Int) - 1 = 1
    · rw [if_pos h]
    · rw [if_neg h, if_neg (by omega)]
      have : (((k + 2 : Nat) : Int) - 1).toNat = k + 1 := by omega
      rw [this, (wide_kin m (k + 1) (by omega) (by omega)).2.2.2, chain_at, if_pos rfl]
theorem wide_good (m k : Nat) (hk : k < m + 2) : good (wide m) true k = true := by
  unfold good
  rw [wide_open m k hk, Bool.true_and]
  match k with
  | 0 => rfl
  | 1 => rfl
  | k + 2 =>
    rw [if_neg (by simp)]
    obtain ⟨h1, h2, h3, h4⟩ := wide_kin m (k + 2) (by omega) hk
    unfold fitsB fitsK
    rw [h1, h2, h3, h4]
    rfl
theorem wide_all (m : Nat) : ∀ n, n ≤ m + 2 → allB (wide m) true n = true
  | 0, _ => rfl
  | n + 1, h => by
    unfold allB
    rw [wide_all m n (by omega), wide_good m n (by omega)]
    rfl
theorem wide_sums (m : Nat) : ∀ n, n ≤ m → tops (wide m) (n + 2) = 1 ∧ elems (wide m) (n + 2) = 1 ∧ deepest (wide m) (n + 2) = 1
  | 0, _ => ⟨rfl, rfl, rfl⟩
  | n + 1, h => by
    obtain ⟨h1, h2, h3⟩ := wide_sums m n (by omega)
    obtain ⟨k1, _, _, k4⟩ := wide_kin m (n + 2) (by omega) (by omega)
    refine ⟨?_, ?_, ?_⟩
    · rw [show n + 1 + 2 = (n + 2) + 1 by omega, tops, h1, k4, if_neg (by omega)]
    · rw [show n + 1 + 2 = (n + 2) + 1 by omega, elems, h2, k1, if_neg (by omega)]
    · rw [show n + 1 + 2 = (n + 2) + 1 by omega, deepest, h3, k1, if_neg (by omega)]
theorem chk_wide (m : Nat) : chk (wide m) true = if 16384 < m + 2 then 3 else 0 := by
  unfold chk
  rw [wide_len, wide_all m (m + 2) (Nat.le_refl _)]
  obtain ⟨h1, h2, h3⟩ := wide_sums m m (Nat.le_refl _)
  rw [h1, h2, h3]
  simp
/-- elements within one another -/
def nest (d : Nat) : List Nd := (1, [], [], -1) :: (List.range d).map fun (i : Nat) => (2, [97], [], (i : Int))
theorem chk_nest59 : chk (nest 59) true = 0 := by kernel_rfl
theorem chk_nest60 : chk (nest 60) true = 0 := by kernel_rfl
theorem chk_nest61 : chk (nest 61) true = 131 := by kernel_rfl
theorem nest_len (d : Nat) : (nest d).length = d + 1 := by simp [nest]
theorem wide_zero : wide 0 = [(1, [], [], -1), (2, [97], [], 0)] := rfl
theorem wide_succ (m : Nat) : wide (m + 1) = wide m ++ [(5, [], [], 1)] := by
  unfold wide
  rw [List.replicate_succ', List.cons_append, List.cons_append]
theorem nest_succ (d : Nat) : nest (d + 1) = nest d ++ [(2, [97], [], (d : Int))] := by
  unfold nest
  rw [List.range_succ, List.map_append, List.cons_append]
  rfl
/-- a text of so many letters, below an element -/
def long (n : Nat) : List Nd := [(1, [], [], -1), (2, [97], [], 0), (4, [], List.replicate n 120, 1)]
theorem runes_rep : ∀ n : Nat, Pch.runes (List.replicate n (120 : UInt8)) = List.replicate n (120, 1)
  | 0 => rfl
  | n + 1 => by
    rw [List.replicate_succ, Pch.runes_step _ (by simp), Pch.decode_low 120 _ (by decide)]
    show _ :: Pch.runes ((120 :: List.replicate n 120).drop 1) = _
    rw [List.drop_succ_cons, List.drop_zero, runes_rep n]
    rfl
theorem texts_rep (n : Nat) : Pch.textsL (List.replicate n (120 : UInt8)) = true := by
  unfold Pch.textsL
  rw [runes_rep]
  rw [List.all_eq_true]
  intro p hp
  rw [(List.mem_replicate.1 hp).2]
  rfl
theorem chk_long (n : Nat) (h : 0 < n) : chk (long n) true = if n ≤ 65536 then 0 else 4 := by
  have hv : val (long n) 2 = List.replicate n 120 := rfl
  have hK : fitsK (long n) 2 = true := by
    obtain ⟨m, rfl⟩ : ∃ m, n = m + 1 := ⟨n - 1, by omega⟩
    rfl
  have h2 : fitsB (long n) 2 = decide (n ≤ 65536) := by
    unfold fitsB
    rw [hv, hK, texts_rep, List.length_replicate, Bool.true_and, Bool.and_true]
  have g2 : good (long n) true 2 = decide (n ≤ 65536) := by
    unfold good
    rw [if_neg (by simp), h2]
    have : openB (long n) 2 = true := rfl
    rw [this, Bool.true_and]
  have ha : allB (long n) true 3 = decide (n ≤ 65536) := by
    unfold allB
    rw [g2]
    have : allB (long n) true 2 = true := rfl
    rw [this, Bool.true_and]
  unfold chk
  rw [show (long n).length = 3 from rfl, ha, show tops (long n) 3 = 1 from rfl, show elems (long n) 3 = 1 from rfl, show deepest (long n) 3 = 1 from rfl]
  by_cases hn : n ≤ 65536 <;> simp [hn]
end Go.Proofs.YtkcpfjhdbbapiaaDoor.Ptr
