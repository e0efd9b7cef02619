/- Plain: the words of chapter 22: what the scanner of queries computes; no program in sight. -/
import Derived.Test.YtfamljigcffngaaGreatDoorCharsPlain
import Derived.Lib.Replace
import Derived.Lib.ParseIntB
import Derived.Lib.ItoaNum
namespace Go.Proofs.YtfamljigcffngaaGreatDoor.Plx
open Go Go.Lib

/-- a token without its place: its kind, its text, its number -/
abbrev Tok := Nat × List UInt8 × Int
def signsL : List (List UInt8) := [[47, 47], [33, 61], [60, 61], [62, 61], [46, 46], [58, 58], [58, 61], [40], [41], [91], [93], [44], [47], [124], [43], [45], [42], [61], [60], [62], [46], [64], [123], [125]]
/-- the first place at which no character of texts stands -/
def wrongR : Nat → List (Nat × Nat) → Option Nat
  | _, [] => none
  | pos, p :: ps => if (Pch.okR p && Pch.charB p.1) = true then wrongR (pos + p.2) ps else some pos
/-- how long the name is that begins here -/
def nameR : Bool → List (Nat × Nat) → Nat
  | _, [] => 0
  | first, p :: ps => if (Pch.nameB p.1 && (!first || Pch.startB p.1)) = true then p.2 + nameR false ps else 0
def nameN (l : List UInt8) : Nat := nameR true (Pch.runes l)
/-- how long the comment is -/
def com : Int → List UInt8 → Option Nat
  | _, [] => none
  | _, [_] => none
  | d, a :: b :: r =>
    if a = 40 ∧ b = 58 then (com (d + 1) r).map (· + 2)
    else if a = 58 ∧ b = 41 then (if d = 1 then some 2 else (com (d - 1) r).map (· + 2))
    else (com d (b :: r)).map (· + 1)
/-- what a string says behind its first quote, and how far it goes -/
def quo (q : UInt8) : List UInt8 → Option (List UInt8 × Nat)
  | [] => none
  | [c] => if c = q then some ([], 1) else none
  | c :: d :: r =>
    if c = q then (if d = q then (quo q r).map fun x => (q :: x.1, x.2 + 2) else some ([], 1))
    else (quo q (d :: r)).map fun x => (c :: x.1, x.2 + 1)
def isDig (c : UInt8) : Bool := decide (48 ≤ c.toNat ∧ c.toNat ≤ 57)
def digN (l : List UInt8) : Nat := (l.takeWhile isDig).length
def wholeL (l : List UInt8) : Except Nat (Tok × Nat) :=
  if nameN (l.drop (digN l)) ≠ 0 then .error 220
  else match Lib.parseIntB 64 (l.take (digN l)) with
    | .ok v => .ok ((2, [], v), digN l)
    | _ => .error 251
def signAt (l : List UInt8) : Option (List UInt8) := signsL.find? fun s => Lib.hasPrefix l s
def aheadN (c : UInt8) : Nat := if c = 36 then 1 else 0
def kindN (c : UInt8) : Nat := if c = 36 then 4 else 1
def signR (l : List UInt8) : Except Nat (Tok × Nat) := match signAt l with
  | some s => .ok ((5, s, 0), s.length)
  | none => .error 220
def wordR (A K : Nat) (l : List UInt8) : Except Nat (Tok × Nat) :=
  if 100 < nameN (l.drop A) ∨ (nameN (l.drop A) = 0 ∧ 0 < A) then .error 220
  else if nameN (l.drop A) ≠ 0 then .ok ((K, (l.drop A).take (nameN (l.drop A)), 0), A + nameN (l.drop A))
  else signR l
def wordL (c : UInt8) (l : List UInt8) : Except Nat (Tok × Nat) := wordR (aheadN c) (kindN c) l
def quoL (c : UInt8) (r : List UInt8) : Except Nat (Tok × Nat) := match quo c r with
  | none => .error 220
  | some x => .ok ((3, x.1, 0), x.2 + 1)
def tokL : List UInt8 → Except Nat (Tok × Nat)
  | [] => .error 0
  | c :: r => if isDig c = true then wholeL (c :: r) else if c = 34 ∨ c = 39 then quoL c r else wordL c (c :: r)
def trimB (l : List UInt8) : List UInt8 := Lib.trimLeftS l [32, 9, 13, 10]
def isCom (l : List UInt8) : Bool := Lib.hasPrefix l [40, 58]
/-- a text's tokens with their places, or the first fault and its place -/
def scanG : Nat → Nat → List UInt8 → Except (Nat × Nat) (List (Tok × Nat))
  | 0, _, _ => .error (0, 0)
  | f + 1, a, l =>
    if trimB l = [] then .ok [((0, [], 0), a + (l.length - (trimB l).length))]
    else if isCom (trimB l) = true then (match com 0 (trimB l) with
      | none => .error (220, a + (l.length - (trimB l).length))
      | some n => scanG f (a + (l.length - (trimB l).length) + n) ((trimB l).drop n))
    else match tokL (trimB l) with
      | .error e => .error (e, a + (l.length - (trimB l).length))
      | .ok x => match scanG f (a + (l.length - (trimB l).length) + x.2) ((trimB l).drop x.2) with
        | .error e => .error e
        | .ok ts => .ok ((x.1, a + (l.length - (trimB l).length)) :: ts)
def scanL (l : List UInt8) : Except (Nat × Nat) (List (Tok × Nat)) :=
  if 65536 < l.length then .error (3, 0)
  else match wrongR 0 (Pch.runes l) with
    | some p => .error (120, p)
    | none => scanG (l.length + 1) 0 l
def dbl (l : List UInt8) : List UInt8 := l.flatMap fun c => if c = 34 then [34, 34] else [c]
/-- how a token is written -/
def spellL (t : Tok) : Option (List UInt8) :=
  if t.1 = 0 then (if t.2.1 = [] ∧ t.2.2 = 0 then some [] else none)
  else if t.1 = 1 then (if Pch.nameL t.2.1 = true ∧ t.2.2 = 0 then some t.2.1 else none)
  else if t.1 = 2 then (if 0 ≤ t.2.2 ∧ t.2.1 = [] then some (Lib.itoa t.2.2) else none)
  else if t.1 = 3 then (if Pch.textsL t.2.1 = true ∧ t.2.1.length ≤ 65536 ∧ t.2.2 = 0 then some (34 :: (dbl t.2.1 ++ [34])) else none)
  else if t.1 = 4 then (if Pch.nameL t.2.1 = true ∧ t.2.2 = 0 then some (36 :: t.2.1) else none)
  else if t.1 = 5 then (if t.2.1 ∈ signsL ∧ t.2.2 = 0 then some t.2.1 else none)
  else none

/-! ### how far they go -/
def widths : List (Nat × Nat) → Nat
  | [] => 0
  | p :: ps => p.2 + widths ps
theorem widths_le : ∀ (n : Nat) (l : List UInt8), l.length ≤ n → widths (Pch.runes l) ≤ l.length
  | _, [], _ => by simp [Pch.runes_nil, widths]
  | 0, c :: l, h => by simp at h
  | n + 1, c :: l, h => by
    have hne : c :: l ≠ [] := by simp
    have hle := decodeL_le (c :: l) hne
    have hw := decodeL_width (c :: l)
    rw [Pch.runes_step _ hne, widths]
    have := widths_le n ((c :: l).drop (decodeL (c :: l)).2) (by rw [List.length_drop]; simp only [List.length_cons] at h ⊢; omega)
    rw [List.length_drop] at this
    omega
theorem nameR_le : ∀ (b : Bool) (ps : List (Nat × Nat)), nameR b ps ≤ widths ps
  | _, [] => by simp [nameR, widths]
  | b, p :: ps => by
    have := nameR_le false ps
    unfold nameR widths
    split <;> omega
theorem nameN_le (l : List UInt8) : nameN l ≤ l.length := Nat.le_trans (nameR_le _ _) (widths_le _ l (Nat.le_refl _))
theorem com_le : ∀ (d : Int) (l : List UInt8) (n : Nat), com d l = some n → 2 ≤ n ∧ n ≤ l.length
  | _, [], n, h => by simp [com] at h
  | _, [_], n, h => by simp [com] at h
  | d, a :: b :: r, n, h => by
    unfold com at h
    split at h
    · obtain ⟨m, hm, rfl⟩ := Option.map_eq_some_iff.1 h
      have := com_le _ r m hm
      simp only [List.length_cons]; omega
    · split at h
      · split at h
        · cases h; simp
        · obtain ⟨m, hm, rfl⟩ := Option.map_eq_some_iff.1 h
          have := com_le _ r m hm
          simp only [List.length_cons]; omega
      · obtain ⟨m, hm, rfl⟩ := Option.map_eq_some_iff.1 h
        have := com_le _ (b :: r) m hm
        simp only [List.length_cons] at this ⊢; omega
theorem quo_le (q : UInt8) : ∀ (l : List UInt8) (x : List UInt8 × Nat), quo q l = some x → 1 ≤ x.2 ∧ x.2 ≤ l.length ∧ x.1.length < x.2
  | [], x, h => by simp [quo] at h
  | [c], x, h => by
    unfold quo at h
    split at h
    · cases h; simp
    · cases h
  | c :: d :: r, x, h => by
    unfold quo at h
    split at h
    · split at h
      · obtain ⟨m, hm, rfl⟩ := Option.map_eq_some_iff.1 h
        have := quo_le q r m hm
        simp only [List.length_cons]; omega
      · cases h; simp
    · obtain ⟨m, hm, rfl⟩ := Option.map_eq_some_iff.1 h
      have := quo_le q (d :: r) m hm
      simp only [List.length_cons] at this ⊢; omega
theorem digN_le (l : List UInt8) : digN l ≤ l.length := by
  unfold digN
  have h := List.takeWhile_append_dropWhile (p := isDig) (l := l)
  have := congrArg List.length h
  rw [List.length_append] at this
  omega
theorem signs_len : ∀ s ∈ signsL, 1 ≤ s.length ∧ s.length ≤ 2 := by decide
theorem signAt_le (l s : List UInt8) (h : signAt l = some s) : s ∈ signsL ∧ s.length ≤ l.length := by
  unfold signAt at h
  have h1 := List.mem_of_find?_eq_some h
  have h2 := List.find?_some h
  refine ⟨h1, ?_⟩
  simp only [Lib.hasPrefix] at h2
  exact (List.isPrefixOf_iff_prefix.1 h2).length_le
theorem tokL_cons (c : UInt8) (r : List UInt8) : tokL (c :: r) = if isDig c = true then wholeL (c :: r) else if c = 34 ∨ c = 39 then quoL c r else wordL c (c :: r) := rfl
theorem tokL_le (l : List UInt8) (x : Tok × Nat) (h : tokL l = .ok x) : 1 ≤ x.2 ∧ x.2 ≤ l.length ∧ x.1.2.1.length ≤ l.length := by
  cases l with
  | nil => cases h
  | cons c r =>
    rw [tokL_cons] at h
    split at h
    · rename_i hd
      have hpos : 1 ≤ digN (c :: r) := by unfold digN; rw [List.takeWhile_cons_of_pos hd]; simp
      have hle := digN_le (c :: r)
      unfold wholeL at h
      split at h
      · cases h
      · split at h
        · cases h; exact ⟨hpos, hle, by simp⟩
        · cases h
    · split at h
      · unfold quoL at h
        split at h
        · cases h
        · rename_i y hy
          cases h
          have := quo_le c r y hy
          simp only [List.length_cons]; omega
      · unfold wordL wordR at h
        split at h
        · cases h
        · split at h
          · rename_i h1 h2
            cases h
            have hn := nameN_le ((c :: r).drop (aheadN c))
            have hl := List.length_drop (i := aheadN c) (l := c :: r)
            refine ⟨?_, ?_, ?_⟩
            · dsimp only; omega
            · dsimp only; rw [hl] at hn; omega
            · dsimp only; rw [List.length_take, List.length_drop]; omega
          · unfold signR at h
            split at h
            · rename_i s hs
              cases h
              have := signAt_le _ _ hs
              have := signs_len s this.1
              dsimp only; omega
            · cases h
theorem trimB_le (l : List UInt8) : (trimB l).length ≤ l.length := by
  unfold trimB Lib.trimLeftS
  exact (List.dropWhile_sublist _).length_le
theorem trimB_drop (l : List UInt8) : trimB l = l.drop (l.length - (trimB l).length) := by
  obtain ⟨t, ht⟩ : trimB l <:+ l := by unfold trimB Lib.trimLeftS; exact List.dropWhile_suffix _
  have e : l.length - (trimB l).length = t.length := by
    have := congrArg List.length ht
    rw [List.length_append] at this
    omega
  rw [e]
  conv => rhs; rw [← ht]
  simp
/-- fuel does not matter, if there is enough -/
theorem scanG_fuel : ∀ (f g a : Nat) (l : List UInt8), l.length < f → l.length < g → scanG f a l = scanG g a l
  | 0, _, _, _, h, _ => by omega
  | _ + 1, 0, _, _, _, h => by omega
  | f + 1, g + 1, a, l, hf, hg => by
    have ht := trimB_le l
    unfold scanG
    split
    · rfl
    · split
      · cases hc : com 0 (trimB l) with
        | none => rfl
        | some n =>
          have := com_le _ _ _ hc
          dsimp only
          exact scanG_fuel f g _ _ (by rw [List.length_drop]; omega) (by rw [List.length_drop]; omega)
      · cases hc : tokL (trimB l) with
        | error e => rfl
        | ok x =>
          have := tokL_le _ _ hc
          dsimp only
          rw [scanG_fuel f g (a + (l.length - (trimB l).length) + x.2) _ (by rw [List.length_drop]; omega) (by rw [List.length_drop]; omega)]
/-- tokens ahead of what is still scanned -/
def pre (acc : List (Tok × Nat)) : Except (Nat × Nat) (List (Tok × Nat)) → Except (Nat × Nat) (List (Tok × Nat))
  | .error e => .error e
  | .ok ts => .ok (acc ++ ts)
theorem pre_nil (r) : pre [] r = r := by cases r <;> rfl

/-! ### step by step, as the loops go -/
def comP (l : List UInt8) : Bool := Lib.hasPrefix l [58, 41]
theorem hp2 (a b x y : UInt8) (r : List UInt8) : Lib.hasPrefix (a :: b :: r) [x, y] = (decide (x = a) && decide (y = b)) := by
  unfold Lib.hasPrefix
  simp only [List.isPrefixOf, Bool.and_true]
  rfl
theorem com_step (d : Int) (l : List UInt8) (hne : l ≠ []) : com d l = if isCom l = true then (com (d + 1) (l.drop 2)).map (· + 2) else if comP l = true then (if d = 1 then some 2 else (com (d - 1) (l.drop 2)).map (· + 2)) else (com d (l.drop 1)).map (· + 1) := by
  match l, hne with
  | [c], _ => simp [com, isCom, comP, Lib.hasPrefix, List.isPrefixOf]
  | a :: b :: r, _ =>
    unfold isCom comP
    rw [hp2, hp2, com]
    by_cases h1 : a = 40 ∧ b = 58
    · obtain ⟨rfl, rfl⟩ := h1
      simp
    · have g1 : (decide ((40 : UInt8) = a) && decide ((58 : UInt8) = b)) = false := by
        rw [← Bool.not_eq_true, Bool.and_eq_true, decide_eq_true_eq, decide_eq_true_eq]
        exact fun h => h1 ⟨h.1.symm, h.2.symm⟩
      rw [if_neg h1, g1]
      by_cases h2 : a = 58 ∧ b = 41
      · rw [if_pos h2]
        obtain ⟨rfl, rfl⟩ := h2
        rfl
      · have g2 : (decide ((58 : UInt8) = a) && decide ((41 : UInt8) = b)) = false := by
          rw [← Bool.not_eq_true, Bool.and_eq_true, decide_eq_true_eq, decide_eq_true_eq]
          exact fun h => h2 ⟨h.1.symm, h.2.symm⟩
        rw [if_neg h2, g2]
        rfl
theorem isCom_len (l : List UInt8) (h : isCom l = true) : 2 ≤ l.length := by
  have := (List.isPrefixOf_iff_prefix.1 h).length_le
  simpa using this
theorem comP_len (l : List UInt8) (h : comP l = true) : 2 ≤ l.length := by
  have := (List.isPrefixOf_iff_prefix.1 h).length_le
  simpa using this
theorem quo_other (q c : UInt8) (r : List UInt8) (h : c ≠ q) : quo q (c :: r) = (quo q r).map fun x => (c :: x.1, x.2 + 1) := by
  cases r with
  | nil => simp [quo, h]
  | cons d r => rw [quo, if_neg h]
theorem quo_last (q : UInt8) : quo q [q] = some ([], 1) := by simp [quo]
theorem quo_end (q d : UInt8) (r : List UInt8) (h : d ≠ q) : quo q (q :: d :: r) = some ([], 1) := by rw [quo, if_pos rfl, if_neg h]
theorem quo_two (q : UInt8) (r : List UInt8) : quo q (q :: q :: r) = (quo q r).map fun x => (q :: x.1, x.2 + 2) := by rw [quo, if_pos rfl, if_pos rfl]
theorem tokL_err (l : List UInt8) (hne : l ≠ []) (e : Nat) (h : tokL l = .error e) : e = 220 ∨ e = 251 := by
  cases l with
  | nil => exact absurd rfl hne
  | cons c r =>
    rw [tokL_cons] at h
    split at h
    · unfold wholeL at h
      split at h
      · cases h; exact .inl rfl
      · split at h
        · cases h
        · cases h; exact .inr rfl
    · split at h
      · unfold quoL at h
        split at h
        · cases h; exact .inl rfl
        · cases h
      · unfold wordL wordR at h
        split at h
        · cases h; exact .inl rfl
        · split at h
          · cases h
          · unfold signR at h
            split at h
            · cases h
            · cases h; exact .inl rfl
theorem scanG_end (f a : Nat) (l : List UInt8) (h : trimB l = []) : scanG (f + 1) a l = .ok [((0, [], 0), a + l.length)] := by
  rw [scanG, if_pos h, h]
  simp
theorem scanG_com (f a : Nat) (l : List UInt8) (h : trimB l ≠ []) (hc : isCom (trimB l) = true) : scanG (f + 1) a l = match com 0 (trimB l) with
    | none => .error (220, a + (l.length - (trimB l).length))
    | some n => scanG f (a + (l.length - (trimB l).length) + n) ((trimB l).drop n) := by
  rw [scanG, if_neg h, if_pos hc]
theorem scanG_tok (f a : Nat) (l : List UInt8) (h : trimB l ≠ []) (hc : isCom (trimB l) = false) : scanG (f + 1) a l = match tokL (trimB l) with
    | .error e => .error (e, a + (l.length - (trimB l).length))
    | .ok x => pre [(x.1, a + (l.length - (trimB l).length))] (scanG f (a + (l.length - (trimB l).length) + x.2) ((trimB l).drop x.2)) := by
  rw [scanG, if_neg h, if_neg (by rw [hc]; decide)]
  cases tokL (trimB l) with
  | error e => rfl
  | ok x =>
    dsimp only
    cases scanG f (a + (l.length - (trimB l).length) + x.2) ((trimB l).drop x.2) <;> rfl
theorem pre_pre (a b : List (Tok × Nat)) (r) : pre a (pre b r) = pre (a ++ b) r := by cases r <;> simp [pre]
end Go.Proofs.YtfamljigcffngaaGreatDoor.Plx
