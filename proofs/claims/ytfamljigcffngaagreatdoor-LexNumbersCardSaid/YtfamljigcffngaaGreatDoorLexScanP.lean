/- Plain: what the document's scanner reckons of digits (chapter 22). -/
import Derived.Test.YtfamljigcffngaaGreatDoorDigits
import Derived.Test.YtfamljigcffngaaGreatDoorLexLocalC
namespace Go.Proofs.YtfamljigcffngaaGreatDoor.Plx
open Go Go.Lib

theorem isDig_dgt (c : UInt8) : isDig c = Pdg.dgt c := by
  unfold isDig Pdg.dgt
  rw [Bool.eq_iff_iff]
  simp
theorem parse_small (ds : List UInt8) (hne : ds ≠ []) (ha : ds.all Pdg.dgt = true) (h : Pdg.dv 0 ds ≤ 9223372036854775807) : Lib.parseIntB 64 ds = .ok (Pdg.dv 0 ds : Int) := by
  have hU := Pdg.uintB_dv hne ha (by omega)
  cases ds with
  | nil => exact absurd rfl hne
  | cons c r =>
    rw [List.all_cons, Bool.and_eq_true, Pdg.dgt_iff] at ha
    rw [Lib.parseIntB_plain 64 c r (by omega) (by omega), hU]
    have p63 : (2 : Nat) ^ (64 - 1) = 9223372036854775808 := by decide
    simp only [Lib.signlessC, p63]
    rw [if_neg (by omega)]
theorem parse_great (ds : List UInt8) (ha : ds.all Pdg.dgt = true) (h : 9223372036854775807 < Pdg.dv 0 ds) (v : Int) : Lib.parseIntB 64 ds ≠ .ok v := by
  intro hv
  cases ds with
  | nil => cases hv
  | cons c r =>
    have ha' := ha
    rw [List.all_cons, Bool.and_eq_true, Pdg.dgt_iff] at ha'
    rw [Lib.parseIntB_plain 64 c r (by omega) (by omega)] at hv
    cases hU : Lib.parseUintB 64 (c :: r) with
    | ok u =>
      obtain ⟨_, _, e⟩ := Pdg.uintB_ok hU
      have p63 : (2 : Nat) ^ (64 - 1) = 9223372036854775808 := by decide
      rw [hU] at hv
      simp only [Lib.signlessC, p63] at hv
      rw [if_pos (by omega)] at hv
      cases hv
    | range => rw [hU] at hv; cases hv
    | _ => rw [hU] at hv; cases hv
theorem take_dig (l : List UInt8) : l.take (digN l) = l.takeWhile isDig := (List.prefix_iff_eq_take.1 (List.takeWhile_prefix isDig)).symm
theorem all_dig (l : List UInt8) : (l.take (digN l)).all Pdg.dgt = true := by
  rw [take_dig, List.all_eq_true]
  intro c hc
  rw [← isDig_dgt]
  have := List.all_takeWhile (p := isDig) (l := l)
  rw [List.all_eq_true] at this
  exact this c hc
/-- what the digits ahead say -/
def numN (l : List UInt8) : Nat := Pdg.dv 0 (l.take (digN l))
def wholeV (l : List UInt8) : Except Nat (Tok × Nat) :=
  if nameN (l.drop (digN l)) ≠ 0 then .error 220
  else if 9223372036854775807 < numN l then .error 251
  else .ok ((2, [], (numN l : Int)), digN l)
theorem wholeL_V (l : List UInt8) (h0 : digN l ≠ 0) : wholeL l = wholeV l := by
  have ha := all_dig l
  have hne : l.take (digN l) ≠ [] := by
    intro e
    have h1 := congrArg List.length e
    have h2 := digN_le l
    rw [List.length_take, Nat.min_eq_left h2] at h1
    exact h0 h1
  unfold wholeL wholeV
  by_cases h1 : nameN (l.drop (digN l)) ≠ 0
  · rw [if_pos h1, if_pos h1]
  · rw [if_neg h1, if_neg h1]
    by_cases h2 : 9223372036854775807 < numN l
    · rw [if_pos h2]
      split
      · rename_i v hv
        exact absurd hv (parse_great _ ha h2 v)
      · rfl
    · rw [if_neg h2, parse_small _ hne ha (by unfold numN at h2; omega)]
      rfl
/-- digit by digit -/
theorem dig_more (l : List UInt8) (k : Nat) (c : UInt8) (hk : k < digN l) (hc : l[k]? = some c) : isDig c = true ∧ l.take (k + 1) = l.take k ++ [c] := by
  refine ⟨?_, by rw [List.take_add_one, hc]; rfl⟩
  have h := all_dig l
  rw [List.all_eq_true] at h
  rw [isDig_dgt]
  refine h c (List.mem_of_getElem? (i := k) ?_)
  rw [List.getElem?_take, if_pos hk]
  exact hc
theorem dig_stop (l : List UInt8) (c : UInt8) (hc : l[digN l]? = some c) : isDig c = false := by
  have h : l = l.takeWhile isDig ++ l.dropWhile isDig := List.takeWhile_append_dropWhile.symm
  unfold digN at hc
  generalize ht : l.takeWhile isDig = t at h hc
  generalize hd : l.dropWhile isDig = d at h
  rw [h, List.getElem?_append_right (Nat.le_refl _), Nat.sub_self] at hc
  cases d with
  | nil => simp at hc
  | cons x r =>
    simp only [List.getElem?_cons_zero, Option.some.injEq] at hc
    subst hc
    have := List.head?_dropWhile_not isDig l
    rw [hd] at this
    simpa using this
end Go.Proofs.YtfamljigcffngaaGreatDoor.Plx
