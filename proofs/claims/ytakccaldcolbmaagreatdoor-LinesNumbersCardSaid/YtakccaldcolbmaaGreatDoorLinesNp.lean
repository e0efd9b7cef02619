/- The plain facts of LinesNumbers (chapter 31). -/
import Derived.Test.YtakccaldcolbmaaGreatDoorLinesC
namespace Go.Proofs.YtakccaldcolbmaaGreatDoor.Pln
open Go

/-- lines that are commands, and which -/
def yesP : List (List UInt8 × Cmd) := [([108, 111, 97, 100, 32, 34, 34], (1, [], 0, [])), ([113, 117, 101, 114, 121, 32, 34, 97, 34], (2, [97], 1, [])), ([115, 99, 97, 110, 32, 34, 97, 34], (2, [97], 0, [])), ([117, 112, 100, 97, 116, 101, 32, 34, 97, 34], (3, [97], 0, [])), ([112, 111, 105, 110, 116], (4, [], 0, [])), ([100, 117, 109, 112], (5, [], 0, [])), ([111, 112, 101, 110], (7, [], 0, [])), ([99, 114, 97, 115, 104, 32, 45, 57, 50, 50, 51, 51, 55, 50, 48, 51, 54, 56, 53, 52, 55, 55, 53, 56, 48, 56], (6, [], -9223372036854775808, [])), ([99, 114, 97, 115, 104, 32, 57, 50, 50, 51, 51, 55, 50, 48, 51, 54, 56, 53, 52, 55, 55, 53, 56, 48, 55, 32, 45, 49, 58, 48, 32, 48, 58, 50, 53, 53], (6, [], 9223372036854775807, [(-1, 0), (0, 255)])), ([32, 32, 100, 117, 109, 112, 32, 32], (5, [], 0, []))]
def yesL : List (List UInt8) := yesP.map (·.1)
/-- lines that are none -/
def noL : List (List UInt8) := [[], [32], [108, 111, 97, 100], [108, 111, 97, 100, 32, 97], [108, 111, 97, 100, 32, 34, 97], [108, 111, 97, 100, 32, 34, 97, 34, 98], [108, 111, 97, 100, 32, 34, 97, 34, 34, 98, 34], [108, 111, 97, 100, 32, 34, 92, 113, 34], [108, 111, 97, 100, 32, 34, 92, 120, 52, 34], [108, 111, 97, 100, 32, 34, 92, 120, 52, 71, 34], [108, 111, 97, 100, 32, 34, 92, 120, 65, 66, 34], [108, 111, 97, 100, 32, 34, 92, 34], [108, 111, 97, 100, 32, 34, 9, 34], [108, 111, 97, 100, 32, 34, 127, 34], [108, 111, 97, 100, 9, 34, 97, 34], [76, 111, 97, 100, 32, 34, 97, 34], [34, 108, 111, 97, 100, 34, 32, 34, 97, 34], [99, 114, 97, 115, 104], [99, 114, 97, 115, 104, 32, 48, 49], [99, 114, 97, 115, 104, 32, 45, 48], [99, 114, 97, 115, 104, 32, 43, 49], [99, 114, 97, 115, 104, 32, 57, 50, 50, 51, 51, 55, 50, 48, 51, 54, 56, 53, 52, 55, 55, 53, 56, 48, 56], [99, 114, 97, 115, 104, 32, 49, 32, 48, 58, 50, 53, 54], [99, 114, 97, 115, 104, 32, 49, 32, 48, 58, 45, 49], [99, 114, 97, 115, 104, 32, 49, 32, 48], [99, 114, 97, 115, 104, 32, 49, 32, 48, 58, 49, 58, 50], [99, 114, 97, 115, 104, 32, 49, 32, 58, 49], [99, 114, 97, 115, 104, 32, 49, 32, 49, 58], [99, 114, 97, 115, 104, 32, 34, 49, 34], [99, 114, 97, 115, 104, 32, 49, 32, 34, 48, 58, 49, 34], [100, 117, 109, 112, 32, 49], [111, 112, 101, 110, 10]]
theorem yes_1 : ∀ p ∈ yesP, lineL p.1 = some p.2 := by
  have h : (yesP.all fun p => decide (lineL p.1 = some p.2)) = true := by decide +kernel
  exact fun p hp => of_decide_eq_true (List.all_eq_true.1 h p hp)
theorem yes_2 : ∀ p ∈ yesP, lineL (p.1 ++ [32, 120]) = none := by
  have h : (yesP.all fun p => decide (lineL (p.1 ++ [32, 120]) = none)) = true := by decide +kernel
  exact fun p hp => of_decide_eq_true (List.all_eq_true.1 h p hp)
theorem yes_3 : ∀ p ∈ yesP, lineL (p.1 ++ [32, 34, 97, 34]) = none := by
  have h : (yesP.all fun p => decide (lineL (p.1 ++ [32, 34, 97, 34]) = none)) = true := by decide +kernel
  exact fun p hp => of_decide_eq_true (List.all_eq_true.1 h p hp)
theorem yes_4 : ∀ p ∈ yesP, lineL ([120, 32] ++ p.1) = none := by
  have h : (yesP.all fun p => decide (lineL ([120, 32] ++ p.1) = none)) = true := by decide +kernel
  exact fun p hp => of_decide_eq_true (List.all_eq_true.1 h p hp)
theorem yes_5 : ∀ p ∈ yesP, p.1.length ≤ 100 ∧ p.2.2.2.2.length ≤ 2 := by
  have h : (yesP.all fun p => decide (p.1.length ≤ 100 ∧ p.2.2.2.2.length ≤ 2)) = true := by decide +kernel
  exact fun p hp => of_decide_eq_true (List.all_eq_true.1 h p hp)
theorem no_1 : ∀ x ∈ noL, lineL x = none := by
  have h : (noL.all fun x => decide (lineL x = none)) = true := by decide +kernel
  exact fun p hp => of_decide_eq_true (List.all_eq_true.1 h p hp)
theorem no_2 : ∀ x ∈ noL, x.length ≤ 100 := by decide +kernel
/-- a text that is quoted behind its verb -/
theorem line_load1 (s : List UInt8) : lineL (wLoad ++ 32 :: quoL s) = some (1, s, 0, []) := by
  unfold lineL
  have h1 : wordsL (wLoad ++ 32 :: quoL s) = some [wLoad, quoL s] := by
    rw [words_more _ _ _ _ (Nat.le_refl _) (words_plain (by decide) (by decide) (by decide)), words_quo]
    rfl
  rw [h1]
  show cmdL [wLoad, quoL s] = _
  rw [cmdL_cons, if_neg (by decide), if_pos rfl]
  show (textL (quoL s)).map _ = _
  rw [textL_quo]
  rfl
theorem quo_x (n : Nat) : quoL (List.replicate n 120) = 34 :: (List.replicate n 120 ++ [34]) := by
  unfold quoL
  have h : (List.replicate n (120 : UInt8)).flatMap quoC = List.replicate n 120 := by
    induction n with
    | zero => rfl
    | succ n ih => rw [List.replicate_succ, List.flatMap_cons, ih]; rfl
  rw [h]
theorem line_full (n : Nat) : lineL (wLoad ++ 32 :: 34 :: (List.replicate n 120 ++ [34])) = some (1, List.replicate n 120, 0, []) := by
  rw [← quo_x]
  exact line_load1 _
end Go.Proofs.YtakccaldcolbmaaGreatDoor.Pln
