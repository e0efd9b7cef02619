/- Plain: lines (chapter 31): commands out of words, items as lines; no program in sight. -/
import Derived.Test.YtakccaldcolbmaaGreatDoorLinesP
import Derived.Test.YtakccaldcolbmaaGreatDoorNumPlain
namespace Go.Proofs.YtakccaldcolbmaaGreatDoor.Pln
open Go

/-- a fate: two numbers with a colon between -/
def fateL (w : List UInt8) : Option (Int × Int) :=
  match w.dropWhile (· != 58) with
  | [] => none
  | _ :: b => (match Wk.wholeL (w.takeWhile (· != 58)), Wk.wholeL b with
    | some x, some y => if 0 ≤ y ∧ y < 256 then some (x, y) else none
    | _, _ => none)
def fatesL : List (List UInt8) → Option (List (Int × Int))
  | [] => some []
  | w :: r => (match fateL w, fatesL r with
    | some x, some y => some (x :: y)
    | _, _ => none)
theorem fates_more (w : List UInt8) {x : Int × Int} (hw : fateL w = some x) : ∀ (r : List (List UInt8)) (F : List (Int × Int)), fatesL r = some F → fatesL (r ++ [w]) = some (F ++ [x])
  | [], F, h => by
    cases h
    show (match fateL w, fatesL [] with
      | some x, some y => some (x :: y)
      | _, _ => none) = _
    rw [hw]
    rfl
  | v :: r, F, h => by
    show (match fateL v, fatesL (r ++ [w]) with
      | some x, some y => some (x :: y)
      | _, _ => none) = _
    unfold fatesL at h
    cases hv : fateL v with
    | none => rw [hv] at h; cases h
    | some y =>
      cases hr : fatesL r with
      | none => rw [hv, hr] at h; cases h
      | some G =>
        rw [hv, hr] at h
        cases h
        rw [fates_more w hw r G hr]
        rfl
/-- what a word says as a text -/
def textL : List UInt8 → Option (List UInt8)
  | [] => none
  | c :: r => if c = 34 ∧ r ≠ [] then textF r.dropLast else none
/-- a command: its kind, its text, its number, its fates -/
abbrev Cmd := Nat × List UInt8 × Int × List (Int × Int)
def crashL : List (List UInt8) → Option Cmd
  | [] => none
  | w :: r => (match Wk.wholeL w, fatesL r with
    | some n, some f => some (6, [], n, f)
    | _, _ => none)
def oneL (k : Nat) (n : Int) : List (List UInt8) → Option Cmd
  | [x] => (textL x).map fun t => (k, t, n, [])
  | _ => none
def bareL (k : Nat) : List (List UInt8) → Option Cmd
  | [] => some (k, [], 0, [])
  | _ => none
def wLoad : List UInt8 := [108, 111, 97, 100]
def wQuery : List UInt8 := [113, 117, 101, 114, 121]
def wScan : List UInt8 := [115, 99, 97, 110]
def wUpdate : List UInt8 := [117, 112, 100, 97, 116, 101]
def wPoint : List UInt8 := [112, 111, 105, 110, 116]
def wDump : List UInt8 := [100, 117, 109, 112]
def wOpen : List UInt8 := [111, 112, 101, 110]
def wCrash : List UInt8 := [99, 114, 97, 115, 104]
def cmdL : List (List UInt8) → Option Cmd
  | [] => none
  | w :: r => if w = wCrash then crashL r else if w = wLoad then oneL 1 0 r else if w = wQuery then oneL 2 1 r else if w = wScan then oneL 2 0 r else if w = wUpdate then oneL 3 0 r
    else if w = wPoint then bareL 4 r else if w = wDump then bareL 5 r else if w = wOpen then bareL 7 r else none
theorem cmdL_cons (w : List UInt8) (r : List (List UInt8)) : cmdL (w :: r) = if w = wCrash then crashL r else if w = wLoad then oneL 1 0 r else if w = wQuery then oneL 2 1 r else if w = wScan then oneL 2 0 r else if w = wUpdate then oneL 3 0 r
    else if w = wPoint then bareL 4 r else if w = wDump then bareL 5 r else if w = wOpen then bareL 7 r else none := rfl
theorem textL_cons (c : UInt8) (r : List UInt8) : textL (c :: r) = if c = 34 ∧ r ≠ [] then textF r.dropLast else none := rfl
/-- what a line says -/
def lineL (s : List UInt8) : Option Cmd := (wordsL s).bind cmdL
/-- blanks about a line -/
theorem line_blanks (s : List UInt8) : lineL ([32, 32, 32] ++ s ++ [32, 32]) = lineL s := by
  unfold lineL
  congr 1
  show wordsL (32 :: 32 :: 32 :: (s ++ [32, 32])) = _
  rw [words_lead, words_lead, words_lead, show s ++ [32, 32] = (s ++ [32]) ++ [32] by simp, words_trail _ _ (Nat.le_refl _), words_trail _ _ (Nat.le_refl _)]
theorem one_more (k : Nat) (n : Int) (w : List UInt8) {r : List (List UInt8)} {c : Cmd} (h : oneL k n r = some c) : oneL k n (r ++ [w]) = none ∧ c.1 = k := by
  unfold oneL at h
  split at h
  · rw [Option.map_eq_some_iff] at h
    obtain ⟨t, _, rfl⟩ := h
    exact ⟨rfl, rfl⟩
  · cases h
theorem bare_more (k : Nat) (w : List UInt8) {r : List (List UInt8)} {c : Cmd} (h : bareL k r = some c) : bareL k (r ++ [w]) = none ∧ c.1 = k := by
  unfold bareL at h
  split at h
  · cases h
    exact ⟨rfl, rfl⟩
  · cases h
theorem fate55 : fateL [53, 58, 53] = some (5, 5) := by decide +kernel
theorem words55 : wordsL [53, 58, 53] = some [[53, 58, 53]] := by decide +kernel
/-- a word more: another fate of a crash; no other command -/
theorem line_more {s : List UInt8} {c : Cmd} (h : lineL s = some c) : if c.1 = 6 then lineL (s ++ [32, 53, 58, 53]) = some (6, [], c.2.2.1, c.2.2.2 ++ [(5, 5)]) else lineL (s ++ [32, 53, 58, 53]) = none := by
  unfold lineL at h
  rw [Option.bind_eq_some_iff] at h
  obtain ⟨L, hL, hc⟩ := h
  have hw := words_more [53, 58, 53] _ s L (Nat.le_refl _) hL
  rw [words55] at hw
  have hw : wordsL (s ++ [32, 53, 58, 53]) = some (L ++ [[53, 58, 53]]) := hw
  unfold lineL
  rw [hw]
  show if c.1 = 6 then cmdL (L ++ [[53, 58, 53]]) = _ else cmdL (L ++ [[53, 58, 53]]) = none
  cases L with
  | nil => cases hc
  | cons w r =>
    rw [cmdL_cons] at hc
    rw [List.cons_append, cmdL_cons]
    split at hc
    · rename_i h1
      rw [if_pos h1]
      unfold crashL at hc
      cases r with
      | nil => cases hc
      | cons v r =>
        cases hv : Wk.wholeL v with
        | none => simp only [hv] at hc; cases hc
        | some n =>
          cases hf : fatesL r with
          | none => simp only [hv, hf] at hc; cases hc
          | some F =>
            simp only [hv, hf] at hc
            cases hc
            rw [if_pos rfl, List.cons_append]
            unfold crashL
            simp only [hv, fates_more _ fate55 r F hf]
    · rename_i h1
      rw [if_neg h1]
      have key : c.1 ≠ 6 ∧ (if w = wLoad then oneL 1 0 (r ++ [[53, 58, 53]]) else if w = wQuery then oneL 2 1 (r ++ [[53, 58, 53]]) else if w = wScan then oneL 2 0 (r ++ [[53, 58, 53]]) else if w = wUpdate then oneL 3 0 (r ++ [[53, 58, 53]])
          else if w = wPoint then bareL 4 (r ++ [[53, 58, 53]]) else if w = wDump then bareL 5 (r ++ [[53, 58, 53]]) else if w = wOpen then bareL 7 (r ++ [[53, 58, 53]]) else none) = none := by
        repeat' (split at hc)
        all_goals first
          | (cases hc; done)
          | (have h2 := one_more _ _ [53, 58, 53] hc; refine ⟨by rw [h2.2]; decide, ?_⟩; (repeat' split) <;> first | exact h2.1 | contradiction)
          | (have h2 := bare_more _ [53, 58, 53] hc; refine ⟨by rw [h2.2]; decide, ?_⟩; (repeat' split) <;> first | exact h2.1 | contradiction)
      rw [if_neg key.1]
      exact key.2
theorem textL_quo (s : List UInt8) : textL (quoL s) = some s := by
  unfold quoL
  rw [textL_cons, if_pos ⟨rfl, by simp⟩, List.dropLast_concat, textF_quo]
/-- quoted, a text is read as it was -/
theorem line_back (w s : List UInt8) (k : Nat) (n : Int) (hne : w ≠ []) (h32 : ∀ c ∈ w, c ≠ 32) (h34 : w.head? ≠ some 34) (hk : ∀ r, cmdL (w :: r) = oneL k n r) : lineL ([32, 32] ++ w ++ [32, 32] ++ quoL s ++ [32]) = some (k, s, n, []) := by
  unfold lineL
  have h1 : wordsL ([32, 32] ++ w ++ [32, 32] ++ quoL s ++ [32]) = some [w, quoL s] := by
    rw [words_trail _ _ (Nat.le_refl _)]
    have e : [32, 32] ++ w ++ [32, 32] ++ quoL s = 32 :: 32 :: (w ++ 32 :: (32 :: quoL s)) := by simp
    rw [e, words_lead, words_lead, words_more _ _ _ _ (Nat.le_refl _) (words_plain hne h32 h34), words_lead, words_quo]
    rfl
  rw [h1]
  show cmdL [w, quoL s] = _
  rw [hk]
  show (textL (quoL s)).map _ = _
  rw [textL_quo]
  rfl
/-- what is quoted has no byte below 32 or above 126 -/
def seen (c : UInt8) : Prop := 32 ≤ c ∧ c ≤ 126
theorem hexC_seen : ∀ n : Nat, n < 16 → 32 ≤ hexC n ∧ hexC n ≤ 126 := by decide
theorem quoC_seen (c : UInt8) : ∀ x ∈ quoC c, seen x := by
  have hc : c.toNat < 256 := c.toNat_lt
  unfold quoC
  intro x hx
  split at hx
  · rename_i h
    simp only [List.mem_cons, List.mem_nil_iff, or_false] at hx
    rcases hx with rfl | rfl
    · exact ⟨by decide, by decide⟩
    · rcases h with rfl | rfl <;> exact ⟨by decide, by decide⟩
  · split at hx
    · simp only [List.mem_cons, List.mem_nil_iff, or_false] at hx
      rcases hx with rfl | rfl <;> exact ⟨by decide, by decide⟩
    · split at hx
      · simp only [List.mem_cons, List.mem_nil_iff, or_false] at hx
        rcases hx with rfl | rfl <;> exact ⟨by decide, by decide⟩
      · split at hx
        · simp only [List.mem_cons, List.mem_nil_iff, or_false] at hx
          rcases hx with rfl | rfl | rfl | rfl
          · exact ⟨by decide, by decide⟩
          · exact ⟨by decide, by decide⟩
          · exact hexC_seen _ (by omega)
          · exact hexC_seen _ (by omega)
        · rename_i h
          simp only [List.mem_cons, List.mem_nil_iff, or_false] at hx
          subst hx
          have h1 : ¬ x < 32 := fun e => h (.inl e)
          have h2 : ¬ 126 < x := fun e => h (.inr e)
          exact ⟨UInt8.not_lt.1 h1, UInt8.not_lt.1 h2⟩
theorem quoL_seen (s : List UInt8) : ∀ x ∈ quoL s, seen x := by
  unfold quoL
  intro x hx
  simp only [List.mem_cons, List.mem_append, List.mem_flatMap, List.mem_nil_iff, or_false] at hx
  rcases hx with rfl | ⟨c, _, hc⟩ | rfl
  · exact ⟨by decide, by decide⟩
  · exact quoC_seen c x hc
  · exact ⟨by decide, by decide⟩
end Go.Proofs.YtakccaldcolbmaaGreatDoor.Pln
