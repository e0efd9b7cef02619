/- Joined texts: CharsPlain, TreePlain, ParseP, CharsWalksA, CharsWalksB, CharsWalksC, CharsBlank, TreeFold, NodeKit. -/
import Derived.Lib.ValidLaws
import Derived.Lib.MapLaws
import Derived.Lib.SlTrimSet
import Derived.Lib.Strings
import Derived.Lib.RuneBytes
import Derived.Test.YtemfmidhekdekaaGreatDoorChecked
import Derived.WalkKit
import Derived.Handy
import Derived.Lib.Hide
import Derived.Deep.LoopGhost
import Derived.BigQuiet
import Derived.Deep.QuietTactic
import Derived.Below
import Derived.Test.YtemfmidhekdekaaGreatDoorShelf
import Derived.Deep.DeepFit
import Derived.Lib.OthersKept
import Derived.Test.YtemfmidhekdekaaGreatDoorPsA
import Derived.Lib.Walk
import Derived.Laws.Strings3
import Derived.Laws.RangeAny
import Derived.Lib.Fold
import Derived.ScopeJumps
import Derived.WalkMore
import Derived.Deep.Slices
import Derived.Deep.Fields
import Derived.ChangeSame
import Derived.Lib.SmallJoins
import Derived.Laws.AppendOwn
import Derived.Deep.AppendLies
namespace Go.Proofs.YtemfmidhekdekaaGreatDoor.Pch
open Go Go.Lib

/-- a character of texts -/
def charB (r : Int) : Bool := decide (r = 9 ∨ r = 10 ∨ r = 13 ∨ (32 ≤ r ∧ r ≤ 55295) ∨ (57344 ≤ r ∧ r ≤ 65533) ∨ (65536 ≤ r ∧ r ≤ 1114111))
def startT : List (Int × Int) := [(65, 90), (95, 95), (97, 122), (192, 214), (216, 246), (248, 767), (880, 893), (895, 8191), (8204, 8205), (8304, 8591), (11264, 12271), (12289, 55295), (63744, 64975), (65008, 65533), (65536, 983039)]
def otherT : List (Int × Int) := [(45, 46), (48, 57), (183, 183), (768, 879), (8255, 8256)]
def inT (t : List (Int × Int)) (r : Int) : Bool := t.any fun p => decide (p.1 ≤ r ∧ r ≤ p.2)
def startB (r : Int) : Bool := inT startT r
def nameB (r : Int) : Bool := inT startT r || inT otherT r

theorem charB_iff (r : Int) : charB r = true ↔ (r = 9 ∨ r = 10 ∨ r = 13 ∨ (32 ≤ r ∧ r ≤ 55295) ∨ (57344 ≤ r ∧ r ≤ 65533) ∨ (65536 ≤ r ∧ r ≤ 1114111)) := by simp [charB]
theorem inT_nil (r : Int) : inT [] r = false := rfl
theorem inT_cons (p : Int × Int) (t : List (Int × Int)) (r : Int) : inT (p :: t) r = (decide (p.1 ≤ r ∧ r ≤ p.2) || inT t r) := rfl
theorem startB_iff (r : Int) : startB r = true ↔ (65 ≤ r ∧ r ≤ 90) ∨ (95 ≤ r ∧ r ≤ 95) ∨ (97 ≤ r ∧ r ≤ 122) ∨ (192 ≤ r ∧ r ≤ 214) ∨ (216 ≤ r ∧ r ≤ 246) ∨ (248 ≤ r ∧ r ≤ 767) ∨ (880 ≤ r ∧ r ≤ 893) ∨ (895 ≤ r ∧ r ≤ 8191) ∨ (8204 ≤ r ∧ r ≤ 8205) ∨ (8304 ≤ r ∧ r ≤ 8591) ∨ (11264 ≤ r ∧ r ≤ 12271) ∨ (12289 ≤ r ∧ r ≤ 55295) ∨ (63744 ≤ r ∧ r ≤ 64975) ∨ (65008 ≤ r ∧ r ≤ 65533) ∨ (65536 ≤ r ∧ r ≤ 983039) := by
  simp [startB, startT, inT_cons, inT_nil]
theorem otherB_iff (r : Int) : inT otherT r = true ↔ (45 ≤ r ∧ r ≤ 46) ∨ (48 ≤ r ∧ r ≤ 57) ∨ (183 ≤ r ∧ r ≤ 183) ∨ (768 ≤ r ∧ r ≤ 879) ∨ (8255 ≤ r ∧ r ≤ 8256) := by
  simp [otherT, inT_cons, inT_nil]
theorem nameB_iff (r : Int) : nameB r = true ↔ startB r = true ∨ inT otherT r = true := by simp [nameB, startB]
theorem name_of_start {r : Int} (h : startB r = true) : nameB r = true := (nameB_iff r).2 (.inl h)
theorem char_of_name {r : Int} (h : nameB r = true) : charB r = true := by
  rw [nameB_iff, startB_iff, otherB_iff] at h
  simp only [charB, decide_eq_true_eq]
  omega

/-! ### runes of a byte list -/
def runesGo : Nat → List UInt8 → List (Nat × Nat)
  | 0, _ => []
  | n + 1, l => if l = [] then [] else decodeL l :: runesGo n (l.drop (decodeL l).2)
def runes (l : List UInt8) : List (Nat × Nat) := runesGo l.length l
theorem runesGo_nil : ∀ n, runesGo n [] = []
  | 0 => rfl
  | _ + 1 => by simp [runesGo]
theorem runesGo_fuel : ∀ (n m : Nat) (l : List UInt8), l.length ≤ n → l.length ≤ m → runesGo n l = runesGo m l
  | 0, m, l, hn, _ => by
    have : l = [] := List.eq_nil_of_length_eq_zero (by omega)
    subst this
    rw [runesGo_nil, runesGo_nil]
  | n + 1, 0, l, _, hm => by
    have : l = [] := List.eq_nil_of_length_eq_zero (by omega)
    subst this
    rw [runesGo_nil, runesGo_nil]
  | n + 1, m + 1, l, hn, hm => by
    by_cases hne : l = []
    · subst hne
      rw [runesGo_nil, runesGo_nil]
    · have hw := decodeL_width l
      have hl : 0 < l.length := List.length_pos_iff.2 hne
      simp only [runesGo, if_neg hne]
      rw [runesGo_fuel n m _ (by rw [List.length_drop]; omega) (by rw [List.length_drop]; omega)]
theorem runes_nil : runes [] = [] := rfl
theorem runes_step (l : List UInt8) (hne : l ≠ []) : runes l = decodeL l :: runes (l.drop (decodeL l).2) := by
  have hw := decodeL_width l
  have hl : 0 < l.length := List.length_pos_iff.2 hne
  unfold runes
  obtain ⟨n, hn⟩ : ∃ n, l.length = n + 1 := ⟨l.length - 1, by omega⟩
  rw [hn]
  simp only [runesGo, if_neg hne]
  rw [runesGo_fuel n _ _ (by rw [List.length_drop]; omega) (Nat.le_refl _)]

/-- a rune that stands in right bytes -/
def okR (p : Nat × Nat) : Bool := !decide (p.1 = 65533 ∧ p.2 = 1)
theorem validGoD_runes : ∀ (n : Nat) (l : List UInt8), validGoD n l = (runesGo n l).all okR
  | 0, _ => rfl
  | n + 1, l => by
    unfold validGoD runesGo
    by_cases hne : l = []
    · simp [hne]
    · rw [if_neg hne, if_neg hne, List.all_cons, ← validGoD_runes n]
      by_cases hb : (decodeL l).1 = 65533 ∧ (decodeL l).2 = 1 <;> simp [okR, hb]
theorem validD_runes (l : List UInt8) : validD l = (runes l).all okR := validGoD_runes _ _

/-- texts, names, blanks: chapter 5's words -/
def textsL (l : List UInt8) : Bool := (runes l).all fun p => okR p && charB p.1
def headB : List (Nat × Nat) → Bool
  | [] => false
  | p :: ps => okR p && startB p.1 && ps.all fun p => okR p && nameB p.1
def nameL (l : List UInt8) : Bool := decide (l.length ≤ 100) && headB (runes l)
def blankC (c : UInt8) : Bool := c == 9 || c == 10 || c == 13 || c == 32
def blankL (l : List UInt8) : Bool := l.all blankC

/-- what the program's loops compute -/
def loopTexts (ps : List (Nat × Nat)) : Bool := ps.all fun p => charB p.1
def loopName : Bool → List (Nat × Nat) → Bool
  | _, [] => true
  | first, p :: ps => nameB p.1 && (!first || startB p.1) && loopName false ps
theorem loopName_false : ∀ ps : List (Nat × Nat), loopName false ps = ps.all fun p => nameB p.1
  | [] => rfl
  | p :: ps => by simp [loopName, loopName_false ps]
theorem all_and {α : Type} (f g : α → Bool) : ∀ l : List α, (l.all fun x => f x && g x) = (l.all f && l.all g)
  | [] => rfl
  | x :: l => by
    simp only [List.all_cons, all_and f g l]
    cases f x <;> cases g x <;> simp
theorem texts_prog (l : List UInt8) : (loopTexts (runes l) && validD l) = textsL l := by
  rw [validD_runes, textsL, all_and, loopTexts, Bool.and_comm]
theorem head_prog : ∀ ps : List (Nat × Nat), (loopName true ps && !ps.isEmpty && ps.all okR) = headB ps
  | [] => rfl
  | p :: ps => by
    have hh : (ps.all fun p => okR p && nameB p.1) = (ps.all okR && ps.all fun p => nameB p.1) := all_and _ _ ps
    simp only [loopName, headB, loopName_false, List.all_cons, List.isEmpty_cons, hh]
    by_cases h : startB (p.1 : Int) = true
    · rw [name_of_start h, h]
      cases okR p <;> cases (ps.all okR) <;> cases (ps.all fun p => nameB p.1) <;> rfl
    · rw [Bool.not_eq_true] at h
      rw [h]
      cases okR p <;> cases (ps.all okR) <;> cases (ps.all fun p => nameB p.1) <;> cases nameB (p.1 : Int) <;> rfl
theorem runes_isEmpty (l : List UInt8) : (runes l).isEmpty = l.isEmpty := by
  cases l with
  | nil => rfl
  | cons c t => rw [runes_step _ (by simp)]; rfl
theorem name_prog (l : List UInt8) : (loopName true (runes l) && (!l.isEmpty && decide (l.length ≤ 100) && validD l)) = nameL l := by
  rw [nameL, ← head_prog, validD_runes, runes_isEmpty]
  cases loopName true (runes l) <;> cases l.isEmpty <;> cases decide (l.length ≤ 100) <;> simp

/-! ### where two texts meet -/
theorem getD_app (s t : List UInt8) (i : Nat) (h : i < s.length) : (s ++ t).getD i 0 = s.getD i 0 := by
  simp [List.getD, List.getElem?_append_left h]
/-- bytes that the rune in front does not take are idle -/
theorem decodeN_more (n n' b0 b1 b2 b3 b1' b2' b3' : Nat) (hn : 1 ≤ n) (hn' : n ≤ n') (e1 : 1 < n → b1' = b1) (e2 : 2 < n → b2' = b2) (e3 : 3 < n → b3' = b3) (hok : decodeN n b0 b1 b2 b3 ≠ (65533, 1)) :
    decodeN n' b0 b1' b2' b3' = decodeN n b0 b1 b2 b3 := by
  by_cases h1 : 1 < n
  · obtain rfl := e1 h1
    by_cases h2 : 2 < n
    · obtain rfl := e2 h2
      by_cases h3 : 3 < n
      · obtain rfl := e3 h3
        have a1 : 1 < n' := by omega
        have a2 : 2 < n' := by omega
        have a3 : 3 < n' := by omega
        simp only [decodeN, h1, h2, h3, a1, a2, a3]
      · have a1 : 1 < n' := by omega
        have a2 : 2 < n' := by omega
        simp only [decodeN, h1, h2, h3, a1, a2, true_and, false_and, and_false, if_false] at hok ⊢
        repeat' split
        all_goals first | rfl | (exfalso; omega) | simp_all
    · have a1 : 1 < n' := by omega
      simp only [decodeN, h1, h2, a1, true_and, false_and, and_false, if_false] at hok ⊢
      repeat' split
      all_goals first | rfl | (exfalso; omega) | simp_all
  · simp only [decodeN, h1, false_and, and_false, if_false] at hok ⊢
    by_cases h0 : b0 < 128
    · simp [h0]
    · have : ¬ 2 < n := by omega
      have : ¬ 3 < n := by omega
      simp_all
theorem decode_app (s t : List UInt8) (hne : s ≠ []) (hok : okR (decodeL s) = true) : decodeL (s ++ t) = decodeL s := by
  have hl : 0 < s.length := List.length_pos_iff.2 hne
  rw [decodeL_N, decodeL_N s]
  rw [decodeL_N] at hok
  have h0 : (s ++ t).getD 0 0 = s.getD 0 0 := getD_app s t 0 hl
  rw [h0]
  refine decodeN_more _ _ _ _ _ _ _ _ _ (by omega) (by simp) (fun h => by rw [getD_app s t 1 h]) (fun h => by rw [getD_app s t 2 h]) (fun h => by rw [getD_app s t 3 h]) ?_
  intro h
  rw [h] at hok
  simp [okR] at hok
theorem runes_app : ∀ (n : Nat) (s t : List UInt8), s.length ≤ n → (runes s).all okR = true → runes (s ++ t) = runes s ++ runes t
  | n, [], t, _, _ => by simp [runes_nil]
  | 0, c :: s, t, hn, _ => by simp at hn
  | n + 1, c :: s, t, hn, h => by
    have hne : c :: s ≠ [] := by simp
    have hw := decodeL_width (c :: s)
    have hle := decodeL_le (c :: s) hne
    rw [runes_step _ hne, List.all_cons, Bool.and_eq_true] at h
    rw [runes_step (c :: s ++ t) (by simp), decode_app _ t hne h.1, runes_step _ hne, List.drop_append_of_le_length hle,
      runes_app n ((c :: s).drop (decodeL (c :: s)).2) t (by rw [List.length_drop]; simp only [List.length_cons] at hn ⊢; omega) h.2]
    rfl

/-- a rune within right bytes is decoded alike where what stands behind it is cut off -/
theorem decodeN_less (n n' b0 b1 b2 b3 b1' b2' b3' : Nat) (e1 : 1 < n → b1' = b1) (e2 : 2 < n → b2' = b2) (e3 : 3 < n → b3' = b3)
    (hok : decodeN n' b0 b1' b2' b3' ≠ (65533, 1)) (hw : (decodeN n' b0 b1' b2' b3').2 ≤ n) : decodeN n b0 b1 b2 b3 = decodeN n' b0 b1' b2' b3' := by
  rcases decodeN_shape n' b0 b1' b2' b3' with ⟨c, e⟩ | ⟨c1, c2, c3, cv, e⟩ | ⟨c1, c2, c3, c4, cv, cs, e⟩ | ⟨c1, c2, c3, c4, c5, cv, cw, e⟩ | e
  · rw [e]; simp [decodeN, c]
  · rw [e] at hw ⊢
    dsimp only at hw
    obtain rfl := e1 (by omega)
    have a0 : ¬ b0 < 128 := by omega
    have a1 : 1 < n := by omega
    simp [decodeN, a0, a1, c1, c3, cv]
  · rw [e] at hw ⊢
    dsimp only at hw
    obtain rfl := e1 (by omega)
    obtain rfl := e2 (by omega)
    have a0 : ¬ b0 < 128 := by omega
    have a1 : 1 < n := by omega
    have a2 : 2 < n := by omega
    have a3 : ¬ b0 / 32 = 6 := by omega
    have a4 : (b0 % 16 * 4096 + b1' % 64 * 64 + b2' % 64 < 55296 ∨ (57344 ≤ b0 % 16 * 4096 + b1' % 64 * 64 + b2' % 64 ∧ b0 % 16 * 4096 + b1' % 64 * 64 + b2' % 64 ≤ 1114111)) := by omega
    simp only [decodeN]
    rw [if_neg a0, if_neg (by omega), if_pos ⟨c1, ⟨a1, c3⟩, a2, c4⟩, if_pos ⟨cv, a4⟩]
  · rw [e] at hw ⊢
    dsimp only at hw
    obtain rfl := e1 (by omega)
    obtain rfl := e2 (by omega)
    obtain rfl := e3 (by omega)
    have a0 : ¬ b0 < 128 := by omega
    have a1 : 1 < n := by omega
    have a2 : 2 < n := by omega
    have a3 : 3 < n := by omega
    simp only [decodeN]
    rw [if_neg a0, if_neg (by omega), if_neg (by omega), if_pos ⟨c1, ⟨a1, c3⟩, ⟨a2, c4⟩, a3, c5⟩, if_pos ⟨cv, by omega⟩]
  · exact absurd e hok
/-- .. and where it takes more bytes than are left, the first of those is none that begins a rune -/
theorem decodeN_cross (n n' b0 b1 b2 b3 : Nat) (hn : 1 ≤ n) (hn4 : n < (decodeN n' b0 b1 b2 b3).2) : (n = 1 → b1 / 64 = 2) ∧ (n = 2 → b2 / 64 = 2) ∧ (n = 3 → b3 / 64 = 2) ∧ n ≤ 3 := by
  rcases decodeN_shape n' b0 b1 b2 b3 with ⟨c, e⟩ | ⟨c1, c2, c3, cv, e⟩ | ⟨c1, c2, c3, c4, cv, cs, e⟩ | ⟨c1, c2, c3, c4, c5, cv, cw, e⟩ | e
  all_goals (rw [e] at hn4; dsimp only at hn4; omega)
theorem runes_cut : ∀ (n : Nat) (s t : List UInt8), s.length ≤ n → (runes (s ++ t)).all okR = true → (runes t).all okR = true → (runes s).all okR = true
  | n, [], t, _, _, _ => by simp [runes_nil]
  | 0, c :: s, t, hn, _, _ => by simp at hn
  | n + 1, c :: s, t, hn, h, ht => by
    have hne : c :: s ≠ [] := by simp
    have hl : 0 < (c :: s).length := by simp
    have h' := h
    rw [runes_step _ (show c :: s ++ t ≠ [] by simp), List.all_cons, Bool.and_eq_true] at h
    obtain ⟨h1, h2⟩ := h
    have hw := decodeL_width (c :: s ++ t)
    by_cases hk : (decodeL (c :: s ++ t)).2 ≤ (c :: s).length
    · have e : decodeL (c :: s) = decodeL (c :: s ++ t) := by
        rw [decodeL_N (c :: s ++ t)] at h1 hk ⊢
        rw [decodeL_N (c :: s)]
        rw [getD_app _ t 0 hl] at h1 hk ⊢
        refine decodeN_less _ _ _ _ _ _ _ _ _ (fun h => by rw [getD_app _ t 1 h]) (fun h => by rw [getD_app _ t 2 h]) (fun h => by rw [getD_app _ t 3 h]) ?_ hk
        intro hb
        rw [hb] at h1
        simp [okR] at h1
      rw [runes_step _ hne, List.all_cons, e, h1, Bool.true_and]
      rw [List.drop_append_of_le_length hk] at h2
      exact runes_cut n _ t (by rw [List.length_drop]; simp only [List.length_cons] at hn ⊢; omega) h2 ht
    · exfalso
      have hk' : (c :: s).length < (decodeL (c :: s ++ t)).2 := by omega
      rw [decodeL_N] at hk'
      obtain ⟨x1, x2, x3, x4⟩ := decodeN_cross (c :: s).length _ _ _ _ _ hl hk'
      have hle := decodeL_le (c :: s ++ t) (by simp)
      have htn : t ≠ [] := by
        rintro rfl
        simp at hk hle
        omega
      have hx : (t.getD 0 0).toNat / 64 = 2 := by
        have g : ∀ i, i = (c :: s).length → (c :: s ++ t).getD i 0 = t.getD 0 0 := by
          intro i hi
          subst hi
          simp [List.getD, List.getElem?_append_right (Nat.le_refl _)]
        by_cases q1 : (c :: s).length = 1
        · rw [← g 1 q1.symm]; exact x1 q1
        · by_cases q2 : (c :: s).length = 2
          · rw [← g 2 q2.symm]; exact x2 q2
          · rw [← g 3 (by omega)]; exact x3 (by omega)
      rw [runes_step t htn, List.all_cons, decodeL_N, decodeN_bad _ _ _ _ _ (.inl ⟨by omega, by omega⟩)] at ht
      simp [okR] at ht
theorem all_weaken {α : Type} {f g : α → Bool} (l : List α) (h : ∀ x, f x = true → g x = true) (hf : l.all f = true) : l.all g = true := by
  rw [List.all_eq_true] at hf ⊢
  exact fun x hx => h x (hf x hx)
theorem ok_of_texts {l : List UInt8} (h : textsL l = true) : (runes l).all okR = true :=
  all_weaken _ (fun x hx => by rw [Bool.and_eq_true] at hx; exact hx.1) h
theorem texts_left (s t : List UInt8) (h : textsL s = true) : textsL (s ++ t) = textsL t := by
  have := runes_app s.length s t (Nat.le_refl _) (ok_of_texts h)
  unfold textsL at h ⊢
  rw [this, List.all_append, h, Bool.true_and]
theorem texts_right (s t : List UInt8) (h : textsL t = true) : textsL (s ++ t) = textsL s := by
  cases hs : textsL s with
  | true => rw [texts_left s t hs, h]
  | false =>
    cases hst : textsL (s ++ t) with
    | false => rfl
    | true =>
      have e := runes_app s.length s t (Nat.le_refl _) (runes_cut s.length s t (Nat.le_refl _) (ok_of_texts hst) (ok_of_texts h))
      unfold textsL at hst hs
      rw [e, List.all_append, hs] at hst
      simp at hst
theorem blank_app (s t : List UInt8) : blankL (s ++ t) = (blankL s && blankL t) := List.all_append
theorem decode_low (c : UInt8) (t : List UInt8) (h : c.toNat < 128) : decodeL (c :: t) = (c.toNat, 1) := decodeL_ascii c t h
theorem texts_of_blank : ∀ l : List UInt8, blankL l = true → textsL l = true
  | [], _ => rfl
  | c :: t, h => by
    simp only [blankL, List.all_cons, Bool.and_eq_true] at h
    have hc : c = 9 ∨ c = 10 ∨ c = 13 ∨ c = 32 := by simpa [blankC, or_assoc] using h.1
    have hl : c.toNat < 128 := by rcases hc with rfl | rfl | rfl | rfl <;> decide
    unfold textsL
    rw [runes_step _ (by simp), decode_low c t hl, List.all_cons]
    have := texts_of_blank t h.2
    unfold textsL at this
    simp only [List.drop_succ_cons, List.drop_zero, this, Bool.and_true]
    rcases hc with rfl | rfl | rfl | rfl <;> decide
theorem all_of_head {ps : List (Nat × Nat)} (h : headB ps = true) : (ps.all fun p => okR p && nameB p.1) = true := by
  cases ps with
  | nil => rfl
  | cons p ps =>
    simp only [headB, Bool.and_eq_true] at h
    rw [List.all_cons, h.1.1, name_of_start h.1.2, h.2]
    rfl
theorem texts_of_name {l : List UInt8} (h : nameL l = true) : textsL l = true := by
  simp only [nameL, Bool.and_eq_true] at h
  exact all_weaken _ (fun x hx => by rw [Bool.and_eq_true] at hx ⊢; exact ⟨hx.1, char_of_name hx.2⟩) (all_of_head h.2)
theorem head_app (ps qs : List (Nat × Nat)) (h : ps ≠ []) : headB (ps ++ qs) = (headB ps && qs.all fun p => okR p && nameB p.1) := by
  cases ps with
  | nil => exact absurd rfl h
  | cons p ps => simp only [List.cons_append, headB, List.all_append, Bool.and_assoc]
theorem name_ne {l : List UInt8} (h : nameL l = true) : l ≠ [] := by
  rintro rfl
  simp [nameL, runes_nil, headB] at h
theorem name_join (s t : List UInt8) (hs : nameL s = true) (ht : nameL t = true) (hl : s.length + t.length ≤ 100) : nameL (s ++ t) = true := by
  have e := runes_app s.length s t (Nat.le_refl _) (ok_of_texts (texts_of_name hs))
  have hne := name_ne hs
  simp only [nameL, Bool.and_eq_true] at hs ht ⊢
  refine ⟨by simpa using hl, ?_⟩
  have hr : runes s ≠ [] := by rw [runes_step _ hne]; simp
  rw [e, head_app _ _ hr, hs.2, all_of_head ht.2]
  rfl
theorem name_cut (s t : List UInt8) (hne : s ≠ []) (h : nameL (s ++ t) = true) (hs : textsL s = true) : nameL s = true := by
  have e := runes_app s.length s t (Nat.le_refl _) (ok_of_texts hs)
  have hr : runes s ≠ [] := by rw [runes_step _ hne]; simp
  simp only [nameL, Bool.and_eq_true] at h ⊢
  rw [e, head_app _ _ hr, Bool.and_eq_true] at h
  exact ⟨by have := h.1; simp at this ⊢; omega, h.2.1⟩

/-! ### the document's way to read a rune -/
def nextN (n b0 b1 b2 b3 : Nat) : Nat × Nat :=
  if b0 < 128 then (b0, 1)
  else if 194 ≤ b0 ∧ b0 ≤ 223 then
    if n < 2 ∨ b1 < 128 ∨ 191 < b1 then (0, 0) else (64 * (b0 - 192) + (b1 - 128), 2)
  else if 224 ≤ b0 ∧ b0 ≤ 239 then
    if n < 3 ∨ b1 < 128 ∨ 191 < b1 ∨ b2 < 128 ∨ 191 < b2 then (0, 0)
    else if 64 * (64 * (b0 - 224) + (b1 - 128)) + (b2 - 128) < 2048 ∨ (55296 ≤ 64 * (64 * (b0 - 224) + (b1 - 128)) + (b2 - 128) ∧ 64 * (64 * (b0 - 224) + (b1 - 128)) + (b2 - 128) ≤ 57343) then (0, 0)
    else (64 * (64 * (b0 - 224) + (b1 - 128)) + (b2 - 128), 3)
  else if 240 ≤ b0 ∧ b0 ≤ 244 then
    if n < 4 ∨ b1 < 128 ∨ 191 < b1 ∨ b2 < 128 ∨ 191 < b2 ∨ b3 < 128 ∨ 191 < b3 then (0, 0)
    else if 64 * (64 * (64 * (b0 - 240) + (b1 - 128)) + (b2 - 128)) + (b3 - 128) < 65536 ∨ 1114111 < 64 * (64 * (64 * (b0 - 240) + (b1 - 128)) + (b2 - 128)) + (b3 - 128) then (0, 0)
    else (64 * (64 * (64 * (b0 - 240) + (b1 - 128)) + (b2 - 128)) + (b3 - 128), 4)
  else (0, 0)
set_option maxRecDepth 100000 in
set_option maxHeartbeats 4000000 in
theorem nextN_eq (n b0 b1 b2 b3 : Nat) (h0 : b0 < 256) (h1 : b1 < 256) (h2 : b2 < 256) (h3 : b3 < 256) :
    nextN n b0 b1 b2 b3 = if okR (decodeN n b0 b1 b2 b3) = true then decodeN n b0 b1 b2 b3 else (0, 0) := by
  unfold nextN decodeN
  repeat' split
  all_goals first
    | (exfalso; omega)
    | (exfalso; simp_all [okR]; done)
    | (exfalso; simp_all [okR]; omega)
    | rfl
    | (apply Prod.ext <;> simp only <;> omega)
/-- the document's Next, at a place of the text -/
def nextL (l : List UInt8) : Nat × Nat := if okR (decodeL l) = true then decodeL l else (0, 0)
theorem nextL_N (l : List UInt8) : nextL l = nextN l.length (l.getD 0 0).toNat (l.getD 1 0).toNat (l.getD 2 0).toNat (l.getD 3 0).toNat := by
  rw [nextL, decodeL_N, nextN_eq _ _ _ _ _ (UInt8.toNat_lt _) (UInt8.toNat_lt _) (UInt8.toNat_lt _) (UInt8.toNat_lt _)]

/-! ### a text of one character -/
theorem decode_encode (r : Nat) (hr : r < 55296 ∨ (57343 < r ∧ r ≤ 1114111)) (t : List UInt8) : decodeL (encodeRune (r : Int) ++ t) = (r, (encodeRune (r : Int)).length) ∧ okR (decodeL (encodeRune (r : Int) ++ t)) = true := by
  have tb : ∀ k : Nat, k < 256 → (k.toUInt8).toNat = k := fun k hk => by simp [Nat.toUInt8, Nat.mod_eq_of_lt hk]
  by_cases a : r ≤ 127
  · have e : encodeRune (r : Int) = [r.toUInt8] := by
      unfold encodeRune; rw [encodeRuneZ_one (by omega) (by omega)]; simp
    rw [e]
    have : decodeL ([r.toUInt8] ++ t) = (r, 1) := by
      rw [List.singleton_append, decodeL_ascii _ _ (by rw [tb r (by omega)]; omega), tb r (by omega)]
    rw [this]
    refine ⟨rfl, ?_⟩
    simp only [okR]
    simp; omega
  · by_cases b : r ≤ 2047
    · have e : encodeRune (r : Int) = [(192 + r / 64).toUInt8, (128 + r % 64).toUInt8] := by
        unfold encodeRune; rw [encodeRuneZ_two (by omega) (by omega)]
        simp only [List.map_cons, List.map_nil]
        congr 2
      rw [e]
      have : decodeL ([(192 + r / 64).toUInt8, (128 + r % 64).toUInt8] ++ t) = (r, 2) := by
        rw [decodeL_N]
        simp only [List.cons_append, List.nil_append, List.getD_cons_zero, List.getD_cons_succ, List.length_cons]
        rw [tb _ (by omega), tb _ (by omega)]
        simp only [decodeN]
        rw [if_neg (by omega), if_pos (by omega), if_pos (by omega)]
        apply Prod.ext <;> simp only <;> omega
      rw [this]
      exact ⟨rfl, by simp [okR]⟩
    · by_cases c : r ≤ 65535
      · have e : encodeRune (r : Int) = [(224 + r / 4096).toUInt8, (128 + r / 64 % 64).toUInt8, (128 + r % 64).toUInt8] := by
          unfold encodeRune; rw [encodeRuneZ_three (by omega)]
          simp only [List.map_cons, List.map_nil]
          congr 2
        rw [e]
        have : decodeL ([(224 + r / 4096).toUInt8, (128 + r / 64 % 64).toUInt8, (128 + r % 64).toUInt8] ++ t) = (r, 3) := by
          rw [decodeL_N]
          simp only [List.cons_append, List.nil_append, List.getD_cons_zero, List.getD_cons_succ, List.length_cons]
          rw [tb _ (by omega), tb _ (by omega), tb _ (by omega)]
          simp only [decodeN]
          rw [if_neg (by omega), if_neg (by omega), if_pos (by omega), if_pos (by omega)]
          apply Prod.ext <;> simp only <;> omega
        rw [this]
        exact ⟨rfl, by simp [okR]⟩
      · have e : encodeRune (r : Int) = [(240 + r / 262144).toUInt8, (128 + r / 4096 % 64).toUInt8, (128 + r / 64 % 64).toUInt8, (128 + r % 64).toUInt8] := by
          unfold encodeRune; rw [encodeRuneZ_four (by omega) (by omega)]
          simp only [List.map_cons, List.map_nil]
          congr 2
        rw [e]
        have : decodeL ([(240 + r / 262144).toUInt8, (128 + r / 4096 % 64).toUInt8, (128 + r / 64 % 64).toUInt8, (128 + r % 64).toUInt8] ++ t) = (r, 4) := by
          rw [decodeL_N]
          simp only [List.cons_append, List.nil_append, List.getD_cons_zero, List.getD_cons_succ, List.length_cons]
          rw [tb _ (by omega), tb _ (by omega), tb _ (by omega), tb _ (by omega)]
          simp only [decodeN]
          rw [if_neg (by omega), if_neg (by omega), if_neg (by omega), if_pos (by omega), if_pos (by omega)]
          apply Prod.ext <;> simp only <;> omega
        rw [this]
        exact ⟨rfl, by simp [okR]⟩
theorem runes_encode (r : Nat) (hr : r < 55296 ∨ (57343 < r ∧ r ≤ 1114111)) (t : List UInt8) : runes (encodeRune (r : Int) ++ t) = (r, (encodeRune (r : Int)).length) :: runes t := by
  have hl := encodeRuneZ_length (r : Int)
  have hne : encodeRune (r : Int) ++ t ≠ [] := by
    intro h
    have := congrArg List.length h
    simp [encodeRune] at this
    rw [this.1] at hl
    simp at hl
  rw [runes_step _ hne, (decode_encode r hr t).1]
  simp

end Go.Proofs.YtemfmidhekdekaaGreatDoor.Pch
namespace Go.Proofs.YtemfmidhekdekaaGreatDoor.Ptr
open Go

/-- a node: its kind, name, value, parent -/
abbrev Nd := Nat × List UInt8 × List UInt8 × Int
def nd0 : Nd := (0, [], [], -1)
def kin (l : List Nd) (i : Nat) : Nat := (l.getD i nd0).1
def nam (l : List Nd) (i : Nat) : List UInt8 := (l.getD i nd0).2.1
def val (l : List Nd) (i : Nat) : List UInt8 := (l.getD i nd0).2.2.1
def par (l : List Nd) (i : Nat) : Int := (l.getD i nd0).2.2.2
/-- does the way up from a place come to q? -/
def chain (l : List Nd) (q : Int) : Nat → Int → Bool
  | 0, _ => false
  | f + 1, p => if p = q then true else if p < 0 then false else chain l q f (par l p.toNat)
def openB (l : List Nd) (i : Nat) : Bool := chain l (par l i) (i + 1) ((i : Int) - 1)
/-- the last place ahead of i whose parent is q and that is no attribute -/
def lastC (l : List Nd) (q : Int) : Nat → Int
  | 0 => -1
  | i + 1 => if par l i = q ∧ kin l i ≠ 3 then (i : Int) else lastC l q i
/-- how many elements deep -/
def dep (l : List Nd) : Nat → Nat → Nat
  | 0, _ => 0
  | f + 1, i => (if kin l i = 2 then 1 else 0) + (if par l i < 0 then 0 else dep l f (par l i).toNat)
def depN (l : List Nd) (i : Nat) : Nat := dep l (i + 1) i
def insideB (l : List Nd) (q : Int) : Bool := decide (q < 0) || kin l q.toNat == 1 || kin l q.toNat == 2
def underB (l : List Nd) (q : Int) : Bool := decide (q < 0) || kin l q.toNat == 2
def elemB (l : List Nd) (q : Int) : Bool := !decide (q < 0) && kin l q.toNat == 2
/-- no node from a to i (it left out) bears the name x -/
def freeB (l : List Nd) (x : List UInt8) (a : Nat) : Nat → Bool
  | 0 => true
  | i + 1 => (decide (i < a) || !decide (nam l i = x)) && freeB l x a i
def isXml (s : List UInt8) : Bool := match s with
  | [a, b, c] => (a == 120 || a == 88) && (b == 109 || b == 77) && (c == 108 || c == 76)
  | _ => false
def noBlank (s : List UInt8) : Bool := match s with
  | [] => true
  | c :: _ => !Pch.blankC c
def has2 (a b : UInt8) : List UInt8 → Bool
  | [] => false
  | [_] => false
  | x :: y :: r => (x == a && y == b) || has2 a b (y :: r)
def fitsK (l : List Nd) (i : Nat) : Bool :=
  if kin l i = 2 then insideB l (par l i) && Pch.nameL (nam l i) && decide (val l i = [])
  else if kin l i = 3 then elemB l (par l i) && Pch.nameL (nam l i) && decide (lastC l (par l i) i < 0) && freeB l (nam l i) ((par l i).toNat + 1) i
  else if kin l i = 4 then underB l (par l i) && decide (nam l i = []) && !decide (val l i = []) && (decide (lastC l (par l i) i < 0) || !decide (kin l (lastC l (par l i) i).toNat = 4))
  else if kin l i = 5 then insideB l (par l i) && decide (nam l i = []) && !has2 45 45 (val l i) && !decide ((val l i).getLast? = some 45)
  else if kin l i = 6 then insideB l (par l i) && Pch.nameL (nam l i) && !isXml (nam l i) && !has2 63 62 (val l i) && noBlank (val l i)
  else false
def fitsB (l : List Nd) (i : Nat) : Bool := Pch.textsL (val l i) && decide ((val l i).length ≤ 65536) && fitsK l i
def headB (l : List Nd) (i : Nat) : Bool := decide (kin l i = 1) && decide (nam l i = []) && decide (val l i = [])
def good (l : List Nd) (root : Bool) (i : Nat) : Bool := openB l i && (if (root && i == 0) = true then headB l i else fitsB l i)
/-- how many nodes ahead of i have no parent -/
def tops (l : List Nd) : Nat → Nat
  | 0 => 0
  | i + 1 => tops l i + if par l i < 0 then 1 else 0
def elems (l : List Nd) : Nat → Nat
  | 0 => 0
  | i + 1 => elems l i + if kin l i = 2 ∧ par l i = 0 then 1 else 0
/-- the deepest element ahead of i -/
def deepest (l : List Nd) : Nat → Nat
  | 0 => 0
  | i + 1 => if kin l i = 2 then max (deepest l i) (depN l i) else deepest l i
def allB (l : List Nd) (root : Bool) : Nat → Bool
  | 0 => true
  | i + 1 => allB l root i && good l root i
/-- a tree (root) or a fragment: 0, or what is wrong -/
def chk (l : List Nd) (root : Bool) : Nat :=
  if 16384 < l.length then 3
  else if allB l root l.length = false then 4
  else if root = true ∧ (tops l l.length ≠ 1 ∨ elems l l.length ≠ 1) then 4
  else if 60 < deepest l l.length then 131
  else 0

/-! ### ahead of a place all is in order -/
def Rng (l : List Nd) (n : Nat) : Prop := ∀ k, k < n → -1 ≤ par l k ∧ par l k < k
theorem chain_range {l : List Nd} {q : Int} {n : Nat} (h : Rng l n) : ∀ (f : Nat) (p : Int), -1 ≤ p → p < n → chain l q f p = true → -1 ≤ q ∧ q ≤ p
  | 0, _, _, _, hc => by cases hc
  | f + 1, p, h0, h1, hc => by
    unfold chain at hc
    split at hc
    · omega
    · split at hc
      · cases hc
      · have := h p.toNat (by omega)
        have := chain_range h f (par l p.toNat) (by omega) (by omega) hc
        omega
theorem open_range {l : List Nd} {i : Nat} (h : Rng l i) (ho : openB l i = true) : -1 ≤ par l i ∧ par l i < i := by
  have := chain_range h (i + 1) ((i : Int) - 1) (by omega) (by omega) ho
  omega
theorem Rng.succ {l : List Nd} {i : Nat} (h : Rng l i) (ho : openB l i = true) : Rng l (i + 1) := fun k hk => by
  by_cases e : k = i
  · subst e; exact open_range h ho
  · exact h k (by omega)
theorem good_open {l : List Nd} {root : Bool} {i : Nat} (h : good l root i = true) : openB l i = true := by
  unfold good at h
  rw [Bool.and_eq_true] at h
  exact h.1
theorem allB_good {l : List Nd} {root : Bool} : ∀ {n : Nat}, allB l root n = true → ∀ k, k < n → good l root k = true
  | 0, _, k, hk => by omega
  | n + 1, h, k, hk => by
    unfold allB at h
    rw [Bool.and_eq_true] at h
    by_cases e : k = n
    · subst e; exact h.2
    · exact allB_good h.1 k (by omega)
theorem allB_rng {l : List Nd} {root : Bool} : ∀ {n : Nat}, allB l root n = true → Rng l n
  | 0, _ => fun k hk => by omega
  | n + 1, h => by
    unfold allB at h
    rw [Bool.and_eq_true] at h
    exact (allB_rng h.1).succ (good_open h.2)
theorem chain_fuel {l : List Nd} {q : Int} {n : Nat} (h : Rng l n) : ∀ (f g : Nat) (p : Int), -1 ≤ p → p < n → p + 1 < f → p + 1 < g → chain l q f p = chain l q g p
  | 0, _, _, _, _, hf, _ => by omega
  | _ + 1, 0, _, _, _, _, hg => by omega
  | f + 1, g + 1, p, h0, h1, hf, hg => by
    unfold chain
    split
    · rfl
    · split
      · rfl
      · have := h p.toNat (by omega)
        exact chain_fuel h f g _ (by omega) (by omega) (by omega) (by omega)
theorem dep_fuel {l : List Nd} {n : Nat} (h : Rng l n) : ∀ (f g i : Nat), i < n → i < f → i < g → dep l f i = dep l g i
  | 0, _, _, _, hf, _ => by omega
  | _ + 1, 0, _, _, _, hg => by omega
  | f + 1, g + 1, i, hn, hf, hg => by
    have := h i hn
    unfold dep
    by_cases hp : par l i < 0
    · rw [if_pos hp, if_pos hp]
    · rw [if_neg hp, if_neg hp, dep_fuel h f g (par l i).toNat (by omega) (by omega) (by omega)]
theorem depN_step {l : List Nd} {n : Nat} (h : Rng l n) (i : Nat) (hn : i < n) : depN l i = (if kin l i = 2 then 1 else 0) + (if par l i < 0 then 0 else depN l (par l i).toNat) := by
  have := h i hn
  unfold depN
  rw [dep]
  by_cases hp : par l i < 0
  · rw [if_pos hp, if_pos hp]
  · rw [if_neg hp, if_neg hp, dep_fuel h i ((par l i).toNat + 1) (par l i).toNat (by omega) (by omega) (by omega)]
theorem lastC_lt (l : List Nd) (q : Int) : ∀ n : Nat, -1 ≤ lastC l q n ∧ lastC l q n < n
  | 0 => by simp [lastC]
  | n + 1 => by
    have := lastC_lt l q n
    unfold lastC
    split <;> omega
theorem lastC_step (l : List Nd) (q : Int) (i : Nat) : lastC l q (i + 1) = if par l i = q ∧ kin l i ≠ 3 then (i : Int) else lastC l q i := rfl
/-- below a place there is none whose parent it is -/
theorem lastC_low {l : List Nd} {n : Nat} (h : Rng l n) (q : Int) : ∀ k : Nat, k ≤ n → (k : Int) ≤ q + 1 → lastC l q k = -1
  | 0, _, _ => rfl
  | k + 1, hk, hq => by
    have := h k (by omega)
    unfold lastC
    rw [if_neg (by omega)]
    exact lastC_low h q k (by omega) (by omega)
theorem freeB_step (l : List Nd) (x : List UInt8) (a i : Nat) : freeB l x a (i + 1) = ((decide (i < a) || !decide (nam l i = x)) && freeB l x a i) := rfl
theorem freeB_low (l : List Nd) (x : List UInt8) (a : Nat) : ∀ i, i ≤ a → freeB l x a i = true
  | 0, _ => rfl
  | i + 1, h => by
    rw [freeB_step, decide_eq_true (by omega), freeB_low l x a i (by omega)]
    rfl
theorem freeB_no {l : List Nd} {x : List UInt8} {a k : Nat} (hk : a ≤ k) (hx : nam l k = x) : ∀ i, k < i → freeB l x a i = false
  | 0, h => by omega
  | i + 1, h => by
    rw [freeB_step]
    by_cases e : k = i
    · subst e
      rw [decide_eq_false (by omega), decide_eq_true hx]
      rfl
    · rw [freeB_no hk hx i (by omega), Bool.and_false]
theorem chain_at {l : List Nd} {q : Int} (f : Nat) (p : Int) : chain l q (f + 1) p = if p = q then true else if p < 0 then false else chain l q f (par l p.toNat) := rfl
/-- what stands between a node and a place that is open there lies below it -/
theorem between {l : List Nd} {n : Nat} (h : Rng l n) (ho : ∀ k, k < n → openB l k = true) : ∀ (m x : Nat), x < n → x ≤ m → ∀ k : Nat, par l x < k → k < x → par l x ≤ par l k := by
  intro m
  induction m with
  | zero => intro x _ hx k _ hk; omega
  | succ m ih =>
    intro x hxn hxm k hk1 hk2
    have key : ∀ (f : Nat) (p : Int), p < x → chain l (par l x) f p = true → ∀ k : Nat, par l x < k → (k : Int) ≤ p → par l x ≤ par l k := by
      intro f
      induction f with
      | zero => intro p _ hc; cases hc
      | succ f ihf =>
        intro p hpx hc k hk1 hk2
        rw [chain_at] at hc
        by_cases e : p = par l x
        · omega
        · rw [if_neg e] at hc
          by_cases hp : p < 0
          · rw [if_pos hp] at hc; cases hc
          · rw [if_neg hp] at hc
            have hr := h p.toNat (by omega)
            by_cases hkp : (k : Int) = p
            · have hq := chain_range h f (par l p.toNat) (by omega) (by omega) hc
              have : p.toNat = k := by omega
              rw [this] at hq
              omega
            · by_cases hkq : (k : Int) ≤ par l p.toNat
              · exact ihf (par l p.toNat) (by omega) hc k hk1 hkq
              · have h1 := ih p.toNat (by omega) (by omega) k (by omega) (by omega)
                have h2 := chain_range h f (par l p.toNat) (by omega) (by omega) hc
                omega
    exact key _ _ (by omega) (ho x hxn) k hk1 (by omega)
theorem fits_parent {l : List Nd} {k : Nat} (h : fitsB l k = true) : par l k < 0 ∨ kin l (par l k).toNat = 1 ∨ kin l (par l k).toNat = 2 := by
  unfold fitsB at h
  rw [Bool.and_eq_true] at h
  have h := h.2
  unfold fitsK insideB elemB underB at h
  split at h
  · simp only [Bool.and_eq_true, Bool.or_eq_true, decide_eq_true_eq, beq_iff_eq] at h
    omega
  · split at h
    · simp only [Bool.and_eq_true, Bool.not_eq_true', decide_eq_false_iff_not, beq_iff_eq] at h
      omega
    · split at h
      · simp only [Bool.and_eq_true, Bool.or_eq_true, decide_eq_true_eq, beq_iff_eq] at h
        omega
      · split at h
        · simp only [Bool.and_eq_true, Bool.or_eq_true, decide_eq_true_eq, beq_iff_eq] at h
          omega
        · split at h
          · simp only [Bool.and_eq_true, Bool.or_eq_true, decide_eq_true_eq, beq_iff_eq] at h
            omega
          · cases h
theorem good_parent {l : List Nd} {root : Bool} {k : Nat} (hr : Rng l k) (h : good l root k = true) : par l k < 0 ∨ kin l (par l k).toNat = 1 ∨ kin l (par l k).toNat = 2 := by
  have ho := open_range hr (good_open h)
  unfold good at h
  rw [Bool.and_eq_true] at h
  have h := h.2
  split at h
  · rename_i e
    simp only [Bool.and_eq_true, beq_iff_eq] at e
    omega
  · exact fits_parent h
/-- are all nodes from a to i (it left out) attributes of q by other names than x? -/
def attrsB (l : List Nd) (q : Int) (x : List UInt8) (a : Nat) : Nat → Bool
  | 0 => true
  | i + 1 => (decide (i < a) || (decide (par l i = q) && kin l i == 3 && !decide (nam l i = x))) && attrsB l q x a i
theorem attrsB_iff (l : List Nd) (q : Int) (x : List UInt8) (a : Nat) : ∀ i, attrsB l q x a i = true ↔ ∀ k, a ≤ k → k < i → par l k = q ∧ kin l k = 3 ∧ nam l k ≠ x
  | 0 => by simp [attrsB]
  | i + 1 => by
    unfold attrsB
    rw [Bool.and_eq_true, attrsB_iff l q x a i, Bool.or_eq_true, decide_eq_true_eq]
    simp only [Bool.and_eq_true, decide_eq_true_eq, beq_iff_eq, Bool.not_eq_true', decide_eq_false_iff_not]
    constructor
    · rintro ⟨h1, h2⟩ k hk hki
      by_cases e : k = i
      · subst e
        rcases h1 with h1 | h1
        · omega
        · exact ⟨h1.1.1, h1.1.2, h1.2⟩
      · exact h2 k hk (by omega)
    · intro h
      refine ⟨?_, fun k hk hki => h k hk (by omega)⟩
      by_cases e : i < a
      · exact .inl e
      · have := h i (by omega) (by omega)
        exact .inr ⟨⟨this.1, this.2.1⟩, this.2.2⟩
theorem freeB_iff (l : List Nd) (x : List UInt8) (a : Nat) : ∀ i, freeB l x a i = true ↔ ∀ k, a ≤ k → k < i → nam l k ≠ x
  | 0 => by simp [freeB]
  | i + 1 => by
    rw [freeB_step, Bool.and_eq_true, freeB_iff l x a i, Bool.or_eq_true, decide_eq_true_eq, Bool.not_eq_true', decide_eq_false_iff_not]
    constructor
    · rintro ⟨h1, h2⟩ k hk hki
      by_cases e : k = i
      · subst e
        rcases h1 with h1 | h1
        · omega
        · exact h1
      · exact h2 k hk (by omega)
    · intro h
      refine ⟨?_, fun k hk hki => h k hk (by omega)⟩
      by_cases e : i < a
      · exact .inl e
      · exact .inr (h i (by omega) (by omega))
theorem lastC_neg (l : List Nd) (q : Int) : ∀ i, lastC l q i < 0 ↔ ∀ k, k < i → par l k = q → kin l k = 3
  | 0 => by simp [lastC]
  | i + 1 => by
    unfold lastC
    constructor
    · intro h k hk hq
      by_cases e : par l i = q ∧ kin l i ≠ 3
      · rw [if_pos e] at h; omega
      · rw [if_neg e, lastC_neg l q i] at h
        by_cases e2 : k = i
        · subst e2
          exact Classical.byContradiction fun hc => e ⟨hq, hc⟩
        · exact h k (by omega) hq
    · intro h
      rw [if_neg (fun e => e.2 (h i (by omega) e.1)), lastC_neg l q i]
      exact fun k hk hq => h k (by omega) hq
/-- the document's way to tell an attribute's place is the program's -/
theorem attrs_eq {l : List Nd} {root : Bool} {i : Nat} (ha : allB l root i = true) (ho : openB l i = true) (h0 : 0 ≤ par l i) (x : List UInt8) :
    attrsB l (par l i) x ((par l i).toNat + 1) i = (decide (lastC l (par l i) i < 0) && freeB l x ((par l i).toNat + 1) i) := by
  have hr := allB_rng ha
  have hor : ∀ k, k < i + 1 → openB l k = true := fun k hk => by
    by_cases e : k = i
    · subst e; exact ho
    · exact good_open (allB_good ha k (by omega))
  have hr1 := hr.succ ho
  have hpi := open_range hr ho
  rw [Bool.eq_iff_iff, Bool.and_eq_true, decide_eq_true_eq, attrsB_iff, freeB_iff, lastC_neg]
  constructor
  · intro h
    refine ⟨fun k hk hq => ?_, fun k hk hki => (h k hk hki).2.2⟩
    have := hr k hk
    exact (h k (by omega) hk).2.1
  · rintro ⟨h1, h2⟩ k hk hki
    have hpk : par l k = par l i := by
      induction k using Nat.strongRecOn with
      | ind k ih =>
        have hb := between hr1 hor i i (by omega) (Nat.le_refl _) k (by omega) hki
        apply Classical.byContradiction
        intro hne
        have hrk := hr k hki
        have hm := ih (par l k).toNat (by omega) (by omega) (by omega)
        have h3 := h1 (par l k).toNat (by omega) hm
        rcases good_parent (fun j hj => hr j (by omega)) (allB_good ha k hki) with h4 | h4 | h4 <;> omega
    exact ⟨hpk, h1 k hki hpk, h2 k hk hki⟩
end Go.Proofs.YtemfmidhekdekaaGreatDoor.Ptr
namespace Go.Proofs.YtemfmidhekdekaaGreatDoor.Ppa
open Go Go.Lib Go.Proofs.YtemfmidhekdekaaGreatDoor.Ptr

abbrev Bs := List UInt8
/-- the character that stands next; -1: none -/
def peek (r : Bs) : Int := if r = [] then -1 else ((decodeL r).1 : Int)
/-- behind it -/
def skip (r : Bs) : Bs := r.drop (decodeL r).2
/-- these must stand next -/
def mustL : Bs → Bs → Except Bs Bs
  | [], r => .ok r
  | c :: s, x :: t => if x = c then mustL s t else .error (x :: t)
  | _ :: _, [] => .error []
/-- a name, character by character -/
def againF : Nat → Bs → Bs → Except Bs Bs
  | 0, _, r => .ok r
  | f + 1, n, r => if n = [] then .ok r else if peek r = peek n then againF f (skip n) (skip r) else .error r
def againL (n r : Bs) : Except Bs Bs := againF n.length n r
def blanksL (r : Bs) : Bs := r.dropWhile Pch.blankC
/-- how many bytes of a name stand there, k of them gone by; where there is no room for one more: how many -/
def nameF : Nat → Nat → Bs → Except Nat Nat
  | 0, k, _ => .ok k
  | f + 1, k, r => if Pch.nameB (peek r) = true then (if 100 < k + (decodeL r).2 then .error k else nameF f (k + (decodeL r).2) (skip r)) else .ok k
def nameM (r : Bs) : Except Bs (Bs × Bs) := if Pch.startB (peek r) = true then (match nameF r.length 0 r with | .ok k => .ok (r.take k, r.drop k) | .error k => .error (r.drop k)) else .error r
/-- what stands ahead of an end, and behind it -/
def untilM (e : Bs) : Bs → Option (Bs × Bs)
  | [] => if e = [] then some ([], []) else none
  | x :: t => if hasPrefix (x :: t) e = true then some ([], (x :: t).drop e.length) else (untilM e t).map fun p => (x :: p.1, p.2)
def untilR (e r : Bs) : Except Bs (Bs × Bs) := match untilM e r with | some p => .ok p | none => .error []
/-- line ends made one -/
def said : Bs → Bs
  | [] => []
  | 13 :: 10 :: t => 10 :: said t
  | 13 :: t => 10 :: said t
  | x :: t => x :: said t
/-- what a digit says -/
def digB (hex : Bool) (c : UInt8) : Option Nat :=
  if 48 ≤ c ∧ c ≤ 57 then some (c.toNat - 48) else if hex = true ∧ 97 ≤ c ∧ c ≤ 102 then some (c.toNat - 87) else if hex = true ∧ 65 ≤ c ∧ c ≤ 70 then some (c.toNat - 55) else none
def numG (hex : Bool) : Nat → Bool → Bs → Except Bs (Nat × Bs)
  | _, _, [] => .error []
  | n, any, x :: t => match digB hex x with
    | some d => if 1114111 < n * (if hex then 16 else 10) + d then .error (x :: t) else numG hex (n * (if hex then 16 else 10) + d) true t
    | none => if any = false ∨ x ≠ 59 ∨ Pch.charB n = false then .error (x :: t) else .ok (n, t)
/-- a character by its digits, behind the # -/
def numM : Bs → Except Bs (Nat × Bs)
  | 120 :: t => numG true 0 false t
  | r => numG false 0 false r
/-- a reference, behind its & -/
def refM (r : Bs) : Except Bs (Nat × Bs) :=
  let is (s : Bs) (n : Nat) (r : Bs) : Except Bs (Nat × Bs) := match mustL s r with | .ok t => .ok (n, t) | .error t => .error t
  match r with
  | 35 :: t => numM t
  | 108 :: _ => is [108, 116, 59] 60 r
  | 103 :: _ => is [103, 116, 59] 62 r
  | 113 :: _ => is [113, 117, 111, 116, 59] 34 r
  | 97 :: 109 :: t => is [109, 112, 59] 38 (109 :: t)
  | 97 :: t => is [112, 111, 115, 59] 39 t
  | _ => .error r
def nlL : Bs → Bs
  | 10 :: t => t
  | t => t
/-- an attribute's value, behind its quote -/
def valF (q : UInt8) : Nat → Bs → Bs → Option (Except Bs (Bs × Bs))
  | 0, _, _ => none
  | _ + 1, _, [] => some (.error [])
  | f + 1, acc, x :: t =>
    if x = q then some (.ok (acc, t))
    else if x = 60 then some (.error (x :: t))
    else if x = 38 then (match refM t with | .ok (n, t') => valF q f (acc ++ encodeRune n) t' | .error t' => some (.error t'))
    else if x = 13 then valF q f (acc ++ [32]) (nlL t)
    else if Pch.blankC x = true then valF q f (acc ++ [32]) t
    else valF q f (acc ++ [x]) t
/-- an attribute's value -/
def valM : Bs → Except Bs (Bs × Bs)
  | x :: t => if x = 34 ∨ x = 39 then (match valF x (t.length + 1) [] t with | some o => o | none => .error []) else .error (x :: t)
  | [] => .error []
/-- what a reader has told so far -/
structure St where
  nodes : List Nd
  text : Bs
  twice : Int
  deep : Int
def flush (s : St) (p : Int) : St := if s.text = [] then s else { s with nodes := s.nodes ++ [(4, [], s.text, p)], text := [] }
def add (s : St) (n : Nd) : St := { (if n.1 = 3 then s else flush s n.2.2.2) with nodes := (if n.1 = 3 then s else flush s n.2.2.2).nodes ++ [n] }
/-- an instruction, behind its <? -/
def instrM (p : Int) (r : Bs) (s : St) : Except Bs (Bs × St) := match nameM r with
  | .error r1 => .error r1
  | .ok (nm, r1) =>
    if isXml nm = true then .error r1
    else match r1 with
      | [] => .error []
      | x :: _ =>
        if Pch.blankC x = true then (match untilR [63, 62] (blanksL r1) with | .ok (v, r2) => .ok (r2, add s (6, nm, said v, p)) | .error r2 => .error r2)
        else if x = 63 then (match mustL [63, 62] r1 with | .ok r2 => .ok (r2, add s (6, nm, [], p)) | .error r2 => .error r2)
        else .error r1
/-- a comment, behind its <!- -/
def commM (p : Int) (r : Bs) (s : St) : Except Bs (Bs × St) := match mustL [45] r with
  | .error r1 => .error r1
  | .ok r1 => match untilR [45, 45] r1 with
    | .error r2 => .error r2
    | .ok (v, r2) => match mustL [62] r2 with
      | .error r3 => .error r3
      | .ok r3 => .ok (r3, add s (5, [], said v, p))
/-- an attribute of node q; N: how long the whole text is -/
def attrM (N q : Nat) (r : Bs) (s : St) : Except Bs (Bs × St) := match nameM r with
  | .error r1 => .error r1
  | .ok (nm, r1) => match mustL [61] (blanksL r1) with
    | .error r2 => .error r2
    | .ok r2 => match valM (blanksL r2) with
      | .error r3 => .error r3
      | .ok (v, r3) => .ok (r3, add { s with twice := if s.twice < 0 ∧ ((s.nodes.drop (q + 1)).any fun o => o.2.1 == nm) = true then (N : Int) - r.length else s.twice } (3, nm, v, (q : Int)))
/-- the attributes of node q, up to what is none -/
def attrsF (N q : Nat) : Nat → Bs → St → Option (Except Bs (Bs × St))
  | 0, _, _ => none
  | _ + 1, [], s => some (.ok ([], s))
  | f + 1, x :: t, s => if Pch.blankC x = true then (match blanksL (x :: t) with
      | 47 :: u => some (.ok (47 :: u, s))
      | 62 :: u => some (.ok (62 :: u, s))
      | u => (match attrM N q u s with | .ok (r', s') => attrsF N q f r' s' | .error r' => some (.error r')))
    else some (.ok (x :: t, s))
mutual
/-- a content, up to behind its </, or to the end; run: how many ] stand right ahead -/
def contF (N : Nat) : Nat → Int → Nat → Nat → Bs → St → Option (Except Bs (Bs × St))
  | 0, _, _, _, _, _ => none
  | f + 1, p, d, run, r, s => match r with
    | [] => if p < 0 then some (.ok ([], flush s p)) else some (.error [])
    | x :: t =>
      if x = 62 ∧ 2 ≤ run then some (.error (x :: t))
      else if x = 60 then
        (if 0 ≤ p ∧ t.head? = some 47 then some (.ok (t.tail, flush s p))
        else match markF N f p d t s with
          | some (.ok (r', s')) => contF N f p d 0 r' s'
          | o => o)
      else if x = 38 then (match refM t with | .ok (n, r') => contF N f p d 0 r' { s with text := s.text ++ encodeRune n } | .error r' => some (.error r'))
      else if x = 13 then contF N f p d 0 (nlL t) { s with text := s.text ++ [10] }
      else contF N f p d (if x = 93 then run + 1 else 0) t { s with text := s.text ++ [x] }
/-- what stands behind a < in content -/
def markF (N : Nat) : Nat → Int → Nat → Bs → St → Option (Except Bs (Bs × St))
  | 0, _, _, _, _ => none
  | f + 1, p, d, r, s => match r with
    | 63 :: t => some (instrM p t s)
    | 33 :: 45 :: t => some (commM p t s)
    | 33 :: t => some (match mustL [91, 67, 68, 65, 84, 65, 91] t with
      | .error r1 => .error r1
      | .ok r1 => match untilR [93, 93, 62] r1 with
        | .error r2 => .error r2
        | .ok (v, r2) => .ok (r2, { s with text := s.text ++ said v }))
    | r => elemF N f p (d + 1) r s
/-- an element, behind its < -/
def elemF (N : Nat) : Nat → Int → Nat → Bs → St → Option (Except Bs (Bs × St))
  | 0, _, _, _, _ => none
  | f + 1, p, d, r, s => match nameM r with
    | .error r1 => some (.error r1)
    | .ok (nm, r1) =>
      match attrsF N (add { s with deep := if 60 < d ∧ s.deep < 0 then (N : Int) - r.length - 1 else s.deep } (2, nm, [], p)).nodes.length.pred (f + 1) r1 (add { s with deep := if 60 < d ∧ s.deep < 0 then (N : Int) - r.length - 1 else s.deep } (2, nm, [], p)) with
      | none => none
      | some (.error r2) => some (.error r2)
      | some (.ok (r2, s2)) => match r2 with
        | 47 :: t => some (match mustL [62] t with | .ok r3 => .ok (r3, s2) | .error r3 => .error r3)
        | r2 => match mustL [62] r2 with
          | .error r3 => some (.error r3)
          | .ok r3 => match contF N f ((add { s with deep := if 60 < d ∧ s.deep < 0 then (N : Int) - r.length - 1 else s.deep } (2, nm, [], p)).nodes.length.pred : Int) d 0 r3 s2 with
            | none => none
            | some (.error r4) => some (.error r4)
            | some (.ok (r4, s4)) => some (match againL nm r4 with
              | .error r5 => .error r5
              | .ok r5 => match mustL [62] (blanksL r5) with
                | .error r6 => .error r6
                | .ok r6 => .ok (r6, s4))
end
/-- a quoted word of a declaration, in small or great letters -/
def quotG : Bs → Bs → Except Bs Bs
  | [], r => .ok r
  | _ :: _, [] => .error []
  | c :: s, x :: t => if x = c ∨ (97 ≤ c ∧ x = c - 32) then quotG s t else .error (x :: t)
def quotM (s r : Bs) : Except Bs Bs := match mustL [61] (blanksL r) with
  | .error r1 => .error r1
  | .ok r1 => match blanksL r1 with
    | x :: t => if x = 34 ∨ x = 39 then (match quotG s t with | .error r2 => .error r2 | .ok r2 => mustL [x] r2) else .error (x :: t)
    | [] => .error []
/-- a declaration, behind its <?xml -/
def declM (r : Bs) : Except Bs Bs := match mustL [118, 101, 114, 115, 105, 111, 110] (blanksL r) with
  | .error r1 => .error r1
  | .ok r1 => match quotM [49, 46, 48] r1 with
    | .error r2 => .error r2
    | .ok r2 =>
      if (match r2 with | x :: _ => Pch.blankC x | [] => false) = true ∧ (blanksL r2).head? = some 101 then
        (match mustL [101, 110, 99, 111, 100, 105, 110, 103] (blanksL r2) with
          | .error r3 => .error r3
          | .ok r3 => match quotM [117, 116, 102, 45, 56] r3 with
            | .error r4 => .error r4
            | .ok r4 => mustL [63, 62] (blanksL r4))
      else mustL [63, 62] (blanksL r2)
/-- the parts of a document -/
def docF (N : Nat) : Nat → Bool → Bs → St → Option (Except Bs St)
  | 0, _, _, _ => none
  | f + 1, done, r, s => match blanksL r with
    | [] => if done = true then some (.ok s) else some (.error [])
    | 60 :: 63 :: t => (match instrM 0 t s with | .error r' => some (.error r') | .ok (r', s') => docF N f done r' s')
    | 60 :: 33 :: t => (match mustL [45] t with
      | .error r' => some (.error r')
      | .ok r1 => (match commM 0 r1 s with | .error r' => some (.error r') | .ok (r', s') => docF N f done r' s'))
    | 60 :: t => if done = true then some (.error t) else (match elemF N f 0 1 t s with
      | none => none
      | some (.error r') => some (.error r')
      | some (.ok (r', s')) => docF N f true r' s')
    | r => some (.error r)
def st0 : St := ⟨[], [], -1, -1⟩
def stR : St := ⟨[(1, [], [], -1)], [], -1, -1⟩
/-- the whole of a document -/
def docM (N f : Nat) (l : Bs) : Option (Except Bs St) :=
  if hasPrefix l [60, 63, 120, 109, 108] = true ∧ (match l.drop 5 with | x :: _ => Pch.blankC x | [] => false) = true then
    (match declM (l.drop 5) with | .error r => some (.error r) | .ok r => docF N f false r stR)
  else docF N f false l stR
def fragM (N f : Nat) (l : Bs) : Option (Except Bs St) := match contF N f (-1) 0 0 l st0 with
  | none => none
  | some (.error r) => some (.error r)
  | some (.ok (_, s)) => some (.ok s)
/-- the first byte at which no character of texts stands -/
def wrongF : Nat → Nat → Bs → Option Nat
  | 0, _, _ => none
  | f + 1, k, r => if r = [] then none else if Pch.okR (decodeL r) = true ∧ Pch.charB (decodeL r).1 = true then wrongF f (k + (decodeL r).2) (skip r) else some k
def wrongL (l : Bs) : Option Nat := wrongF l.length 0 l
/-- what is told of a text: its nodes, its fault, the fault's place -/
def toldM (N : Nat) : Except Bs St → List Nd × Int × Int
  | .error r => ([], 130, (N : Int) - r.length)
  | .ok s => if 0 ≤ s.twice then ([], 282, s.twice) else if 0 ≤ s.deep then ([], 131, s.deep) else if 16384 < s.nodes.length then ([], 3, 0) else (s.nodes, 0, 0)
/-- how far a reading can go -/
def fuel (N : Nat) : Nat := 3 * N + 9
def allM (way : Nat → Nat → Bs → Option (Except Bs St)) (l : Bs) : List Nd × Int × Int :=
  if 65536 < l.length then ([], 3, 0) else match wrongL l with
    | some k => ([], 120, k)
    | none => match way l.length (fuel l.length) l with
      | some o => toldM l.length o
      | none => ([], 0, 0)
def documentL (l : Bs) : List Nd × Int × Int := allM docM l
def fragmentL (l : Bs) : List Nd × Int × Int := allM fragM l
end Go.Proofs.YtemfmidhekdekaaGreatDoor.Ppa
namespace Go.Proofs.YtemfmidhekdekaaGreatDoor.Wch
open Go Go.RowKit

theorem ret_bool {a b : Bool} (h : a = b) : Ending.returned (.bool a) = .returned (.bool b) := by rw [h]
theorem char_any (r : Int) (w : World) : Calls Tryz.prog 65 #[.int .i32 r] w fun e w' => e = .returned (.bool (Pch.charB r)) ∧ w = w' := by
  go_enter Tryz.func65, Tryz.ntmps65
  go_wp2
  all_goals
    go_ret
    refine ⟨ret_bool ?_, rfl⟩
    rw [Bool.eq_iff_iff, Pch.charB_iff]
    simp only [Bool.and_eq_true, beq_iff_eq, bne_iff_ne, beq_eq_false_iff_ne, ne_eq, true_iff, false_iff, Bool.false_eq_true] at *
    omega
end Go.Proofs.YtemfmidhekdekaaGreatDoor.Wch
namespace Go.Proofs.YtemfmidhekdekaaGreatDoor.Wch
open Go Go.RowKit

/-- a table of spans lies in block g -/
def Spans (t : List (Int × Int)) (g : Nat) (w : World) : Prop :=
  g < w.heap.size ∧ ∀ i p, t[i]? = some p → w.cell? ⟨g, i * 2, none⟩ = some (.int .i32 p.1) ∧ w.cell? ⟨g, i * 2 + 1, none⟩ = some (.int .i32 p.2)
theorem among_any (t : List (Int × Int)) (g : Nat) (r : Int) (w : World) (ht : Spans t g w) (hl : t.length ≤ 1000) :
    Calls Tryz.prog 120 #[.int .i32 r, .slice (some ⟨g, 0, none⟩) t.length t.length] w fun e w' => e = .returned (.bool (Pch.inT t r)) ∧ Below w.heap.size w w' := by
  go_enter Tryz.func120, Tryz.ntmps120
  go_wp2
  go_loopw [9] (fun i wr => ∃ k : Nat, k ≤ t.length ∧ i = .int .i64 k ∧ Below w.heap.size w wr ∧ Hid (Pch.inT (t.drop k) r = Pch.inT t r)) (fun i _ => t.length - (intOf i).toNat)
  case atStart => exact ⟨0, Nat.zero_le _, rfl, Below.refl _ _, rfl⟩
  case round =>
    obtain ⟨k, hk, rfl, hb, H⟩ := hrel
    by_cases hlt : k < t.length
    · obtain ⟨p, hp⟩ : ∃ p, t[k]? = some p := ⟨_, List.getElem?_eq_getElem hlt⟩
      obtain ⟨h1, h2⟩ := ht.2 k p hp
      have hg := ht.1
      rw [← hb.cell (p := ⟨g, k * 2, none⟩) hg] at h1
      rw [← hb.cell (p := ⟨g, k * 2 + 1, none⟩) hg] at h2
      have HT := Lib.hid ht
      have HP := Lib.hid hp
      clear ht hp
      have hd : t.drop k = p :: t.drop (k + 1) := by
        rw [List.drop_eq_getElem_cons hlt]
        congr 1
        rw [List.getElem?_eq_getElem hlt] at HP
        exact Option.some.inj HP.out
      have H2 : Hid ((decide (p.1 ≤ r ∧ r ≤ p.2) || Pch.inT (t.drop (k + 1)) r) = Pch.inT t r) := by
        have h := H.out
        rw [hd, Pch.inT_cons] at h
        exact h
      have hz := hb.size
      clear hd H
      go_wp2
      · go_ret
        exact ⟨ret_bool (by rw [← H2.out, decide_eq_true (p := p.1 ≤ r ∧ r ≤ p.2) ⟨‹_›, ‹_›⟩]; rfl), by go_grown⟩
      all_goals
        go_roundw
        case rel => exact ⟨k + 1, by omega, by go_num, by go_grown, by show _ = _; rw [← H2.out, decide_eq_false (p := p.1 ≤ r ∧ r ≤ p.2) (by omega)]; rfl⟩
        case measure => simp [intOf]; omega
    · go_wp2
      go_ret
      exact ⟨ret_bool (by rw [← H.out, List.drop_eq_nil_of_le (by omega)]; rfl), hb⟩
/-- the two tables of package chars, as the program lays them -/
def Tabs (w : World) : Prop := Spans Pch.startT 5 w ∧ Spans Pch.otherT 4 w
theorem Spans.below {t : List (Int × Int)} {g : Nat} {w w' : World} (h : Spans t g w) (hb : Below w.heap.size w w') : Spans t g w' :=
  ⟨Nat.lt_of_lt_of_le h.1 hb.size, fun i p hp => by rw [hb.cell (p := ⟨g, i * 2, none⟩) h.1, hb.cell (p := ⟨g, i * 2 + 1, none⟩) h.1]; exact h.2 i p hp⟩
theorem Tabs.below {w w' : World} (h : Tabs w) (hb : Below w.heap.size w w') : Tabs w' := ⟨h.1.below hb, h.2.below hb⟩
theorem start_any (r : Int) (w : World) (ht : Tabs w) : Calls Tryz.prog 100 #[.int .i32 r] w fun e w' => e = .returned (.bool (Pch.startB r)) ∧ Below w.heap.size w w' := by
  have HT := Lib.hid ht
  clear ht
  go_enter Tryz.func100, Tryz.ntmps100
  go_wp2_with (go_at_call 120; refine (among_any Pch.startT 5 r _ HT.out.1 (by decide)).mono ?_; rintro e w' ⟨rfl, hb⟩)
  go_ret
  exact ⟨rfl, hb⟩
theorem name_any (r : Int) (w : World) (ht : Tabs w) : Calls Tryz.prog 99 #[.int .i32 r] w fun e w' => e = .returned (.bool (Pch.nameB r)) ∧ Below w.heap.size w w' := by
  have hn : Pch.nameB r = (Pch.startB r || Pch.inT Pch.otherT r) := rfl
  rw [hn]
  have HT := Lib.hid ht
  clear ht hn
  generalize hS : Pch.startB r = S
  have HS := Lib.hid hS
  clear hS
  cases S
  · go_enter Tryz.func99, Tryz.ntmps99
    go_wp2_with (first | (go_at_call 100; refine (start_any r _ HT.out).mono ?_; rw [HS.out]; rintro e w1 ⟨rfl, hb1⟩) | (go_at_call 120; refine (among_any Pch.otherT 4 r _ (HT.out.below (by assumption)).2 (by decide)).mono ?_; rintro e w2 ⟨rfl, hb2⟩))
    go_ret
    exact ⟨rfl, hb1.trans (hb2.mono hb1.size)⟩
  · go_enter Tryz.func99, Tryz.ntmps99
    go_wp2_with (go_at_call 100; refine (start_any r _ HT.out).mono ?_; rw [HS.out]; rintro e w' ⟨rfl, hb⟩)
    go_ret
    exact ⟨rfl, hb⟩
end Go.Proofs.YtemfmidhekdekaaGreatDoor.Wch
namespace Go.Proofs.YtemfmidhekdekaaGreatDoor.Wch
open Go Go.RowKit

theorem cell_lt {w : World} {g i : Nat} {v : Value} (h : w.cell? ⟨g, i, none⟩ = some v) : g < w.heap.size := by
  rcases Nat.lt_or_ge g w.heap.size with hl | hg
  · exact hl
  · simp [World.cell?, Array.getElem?_eq_none hg] at h
/-- what the walks read of the package variables -/
def Env (w : World) : Prop := Tabs w ∧ Lib.Utf8Tabs 2 3 w
theorem utf8_below {a b : Nat} {w w' : World} (h : Lib.Utf8Tabs a b w) (hb : Below w.heap.size w w') : Lib.Utf8Tabs a b w' := by
  refine ⟨fun c hc => ?_, fun i hi => ?_⟩
  · rw [hb.cell (p := ⟨a, c, none⟩) (cell_lt (h.1 c hc))]; exact h.1 c hc
  · rw [hb.cell (p := ⟨b, 2 * i, none⟩) (cell_lt (h.2 i hi).1), hb.cell (p := ⟨b, 2 * i + 1, none⟩) (cell_lt (h.2 i hi).2)]; exact h.2 i hi
theorem Env.below {w w' : World} (h : Env w) (hb : Below w.heap.size w w') : Env w' := ⟨h.1.below hb, utf8_below h.2 hb⟩
theorem size_len (s : ByteArray) : s.data.toList.length = s.size := by rw [Array.length_toList]; rfl
theorem runes_at (s : ByteArray) (pos : Nat) (h : pos < s.size) : Pch.runes (s.data.toList.drop pos) = Utf8.decode s pos :: Pch.runes (s.data.toList.drop (pos + (Utf8.decode s pos).2)) := by
  have hl := size_len s
  have hne : s.data.toList.drop pos ≠ [] := by
    intro h0
    have := congrArg List.length h0
    rw [List.length_drop, hl] at this
    simp at this
    omega
  rw [Pch.runes_step _ hne, Lib.decodeL_drop, List.drop_drop]
theorem runes_end (s : ByteArray) (pos : Nat) (h : ¬ pos < s.size) : Pch.runes (s.data.toList.drop pos) = [] := by
  have hl := size_len s
  rw [List.drop_eq_nil_of_le (by omega)]
  rfl

end Go.Proofs.YtemfmidhekdekaaGreatDoor.Wch
namespace Go.Proofs.YtemfmidhekdekaaGreatDoor.Wch
open Go Go.RowKit

theorem info_set : (Tryz.prog.info? 112).map (fun i => (i.zero, i.size)) = some (some (.agg (Array.replicate 256 (.bool false))), 256) := by kernel_rfl
theorem trim_any (s : ByteArray) (w : World) (hs : s.size ≤ 9223372036854775807) :
    Calls Tryz.prog 82 #[.string s, .string ⟨#[32, 9, 10, 13]⟩] w fun e w' => e = .returned (.string ⟨(Lib.trimS s.data.toList [32, 9, 10, 13]).toArray⟩) ∧ Below w.heap.size w w' :=
  Any.strings_Trim_laid Tryz.laysTrim info_set s ⟨#[32, 9, 10, 13]⟩ w hs (by decide) (ascii_of_all (by decide))
theorem isEmpty_dropWhile {α : Type} (p : α → Bool) : ∀ l : List α, (l.dropWhile p).isEmpty = l.all p
  | [] => rfl
  | c :: t => by
    simp only [List.dropWhile, List.all_cons]
    cases h : p c with
    | true => simpa using isEmpty_dropWhile p t
    | false => rfl
theorem all_dropWhile {α : Type} (p : α → Bool) : ∀ l : List α, (l.dropWhile p).all p = l.all p
  | [] => rfl
  | c :: t => by
    simp only [List.dropWhile]
    cases h : p c with
    | true => simp only [List.all_cons, h, Bool.true_and]; exact all_dropWhile p t
    | false => rfl
theorem trim_blank (l : List UInt8) : (Lib.trimS l [32, 9, 10, 13]).isEmpty = Pch.blankL l := by
  have hc : (fun c : UInt8 => List.contains [32, 9, 10, 13] c) = Pch.blankC := by
    funext c
    simp only [List.contains, List.elem, Pch.blankC]
    cases (c == 9) <;> cases (c == 10) <;> cases (c == 13) <;> cases (c == 32) <;> rfl
  unfold Lib.trimS Lib.trimLeftS Lib.trimRightS
  rw [hc, isEmpty_dropWhile, List.all_reverse, all_dropWhile, List.all_reverse]
  rfl
theorem blank_any (s : ByteArray) (w : World) (hs : s.size ≤ 9223372036854775807) :
    Calls Tryz.prog 54 #[.string s] w fun e w' => e = .returned (.bool (Pch.blankL s.data.toList)) ∧ Below w.heap.size w w' := by
  rw [← trim_blank]
  have cT := fun wx => trim_any s wx hs
  generalize Lib.trimS s.data.toList [32, 9, 10, 13] = L at cT
  have CT := Lib.hid cT
  clear cT
  go_enter Tryz.func54, Tryz.ntmps54
  go_wp2_with (go_at_call 82; refine (CT.out _).mono ?_; rintro e w' ⟨rfl, hb⟩)
  go_ret
  exact ⟨rfl, hb⟩
end Go.Proofs.YtemfmidhekdekaaGreatDoor.Wch
namespace Go.Proofs.YtemfmidhekdekaaGreatDoor.Wtr
open Go Go.RowKit Go.Proofs.YtemfmidhekdekaaGreatDoor.Kb

/-- what the fold of letters reads -/
def FoldTab (w : World) : Prop := w.cell? ⟨6, 120, none⟩ = some (.int .u16 88) ∧ w.cell? ⟨6, 88, none⟩ = some (.int .u16 120) ∧ w.cell? ⟨6, 109, none⟩ = some (.int .u16 77) ∧ w.cell? ⟨6, 77, none⟩ = some (.int .u16 109) ∧ w.cell? ⟨6, 108, none⟩ = some (.int .u16 76) ∧ w.cell? ⟨6, 76, none⟩ = some (.int .u16 108)
theorem FoldTab.below {w w' : World} (h : FoldTab w) (hb : Below w.heap.size w w') : FoldTab w' := by
  obtain ⟨h0, h1, h2, h3, h4, h5⟩ := h
  have k := fun (i : Nat) (v : Value) (e : w.cell? ⟨6, i, none⟩ = some v) => (show w'.cell? ⟨6, i, none⟩ = some v by rw [hb.cell (p := ⟨6, i, none⟩) (Kb.cell_lt e)]; exact e)
  exact ⟨k _ _ h0, k _ _ h1, k _ _ h2, k _ _ h3, k _ _ h4, k _ _ h5⟩
theorem sfold_120 (w : World) (h : FoldTab w) : Calls Tryz.prog 103 #[.int .i32 120] w fun e w' => e = .returned (.int .i32 88) ∧ w = w' := by
  obtain ⟨h0, h1, h2, h3, h4, h5⟩ := h
  go_enter Tryz.func103, Tryz.ntmps103
  go_wp2
  go_ret
  exact ⟨rfl, rfl⟩
theorem sfold_88 (w : World) (h : FoldTab w) : Calls Tryz.prog 103 #[.int .i32 88] w fun e w' => e = .returned (.int .i32 120) ∧ w = w' := by
  obtain ⟨h0, h1, h2, h3, h4, h5⟩ := h
  go_enter Tryz.func103, Tryz.ntmps103
  go_wp2
  go_ret
  exact ⟨rfl, rfl⟩
theorem sfold_109 (w : World) (h : FoldTab w) : Calls Tryz.prog 103 #[.int .i32 109] w fun e w' => e = .returned (.int .i32 77) ∧ w = w' := by
  obtain ⟨h0, h1, h2, h3, h4, h5⟩ := h
  go_enter Tryz.func103, Tryz.ntmps103
  go_wp2
  go_ret
  exact ⟨rfl, rfl⟩
theorem sfold_77 (w : World) (h : FoldTab w) : Calls Tryz.prog 103 #[.int .i32 77] w fun e w' => e = .returned (.int .i32 109) ∧ w = w' := by
  obtain ⟨h0, h1, h2, h3, h4, h5⟩ := h
  go_enter Tryz.func103, Tryz.ntmps103
  go_wp2
  go_ret
  exact ⟨rfl, rfl⟩
theorem sfold_108 (w : World) (h : FoldTab w) : Calls Tryz.prog 103 #[.int .i32 108] w fun e w' => e = .returned (.int .i32 76) ∧ w = w' := by
  obtain ⟨h0, h1, h2, h3, h4, h5⟩ := h
  go_enter Tryz.func103, Tryz.ntmps103
  go_wp2
  go_ret
  exact ⟨rfl, rfl⟩
theorem sfold_76 (w : World) (h : FoldTab w) : Calls Tryz.prog 103 #[.int .i32 76] w fun e w' => e = .returned (.int .i32 108) ∧ w = w' := by
  obtain ⟨h0, h1, h2, h3, h4, h5⟩ := h
  go_enter Tryz.func103, Tryz.ntmps103
  go_wp2
  go_ret
  exact ⟨rfl, rfl⟩
theorem dec_low (T : ByteArray) (h0 : 0 < T.size) (hc : (T[0]'h0).toNat < 128) (w : World) : Calls Tryz.prog 64 #[.string T] w fun e w' => e = .returned (.tuple #[.int .i32 (T[0]'h0).toNat, .int .i64 1]) ∧ w = w' := by
  have e0 : T.toList.isEmpty = false := by
    rw [ByteArray.toList_eq]
    cases h : T.data.toList with
    | nil => have : T.size = 0 := by rw [Lib.size_eq, h]; rfl
             omega
    | cons _ _ => rfl
  obtain ⟨x, hx⟩ : ∃ x, (T[0]'h0) = x := ⟨_, rfl⟩
  rw [hx] at hc ⊢
  have e1 : (x.toNat : Int) < 128 := by omega
  have e2 : (0 : Int) < (T.size : Int) := by omega
  go_enter Tryz.func64, Tryz.ntmps64
  go_wp2
  go_ret2
  exact ⟨rfl, rfl⟩
theorem dec_120 (w : World) : Calls Tryz.prog 64 #[.string ⟨#[120, 109, 108]⟩] w fun e w' => e = .returned (.tuple #[.int .i32 120, .int .i64 1]) ∧ w = w' := dec_low ⟨#[120, 109, 108]⟩ (by decide) (by decide) w
theorem dec_109 (w : World) : Calls Tryz.prog 64 #[.string ⟨#[109, 108]⟩] w fun e w' => e = .returned (.tuple #[.int .i32 109, .int .i64 1]) ∧ w = w' := dec_low ⟨#[109, 108]⟩ (by decide) (by decide) w
theorem dec_108 (w : World) : Calls Tryz.prog 64 #[.string ⟨#[108]⟩] w fun e w' => e = .returned (.tuple #[.int .i32 108, .int .i64 1]) ∧ w = w' := dec_low ⟨#[108]⟩ (by decide) (by decide) w
theorem fold_lower (a : UInt8) (n : Nat) (h : 97 ≤ n ∧ n ≤ 122) : Lib.foldEq a (UInt8.ofNat n) = (a == UInt8.ofNat n || a == UInt8.ofNat (n - 32)) := by
  have e1 : (UInt8.ofNat n).toNat = n := by rw [UInt8.toNat_ofNat', Nat.mod_eq_of_lt (by omega)]
  have e2 : (UInt8.ofNat (n - 32)).toNat = n - 32 := by rw [UInt8.toNat_ofNat', Nat.mod_eq_of_lt (by omega)]
  rw [Bool.eq_iff_iff]
  unfold Lib.foldEq
  simp only [decide_eq_true_eq, Bool.or_eq_true, beq_iff_eq, ← UInt8.toNat_inj, e1, e2]
  omega
theorem xml_fold (l : List UInt8) : Ptr.isXml l = Lib.equalFold l [120, 109, 108] := by
  match l with
  | [] => rfl
  | [a] => simp [Ptr.isXml, Lib.equalFold]
  | [a, b] => simp [Ptr.isXml, Lib.equalFold]
  | [a, b, c] =>
    have h1 := fold_lower a 120 (by omega)
    have h2 := fold_lower b 109 (by omega)
    have h3 := fold_lower c 108 (by omega)
    change Lib.foldEq a 120 = (a == 120 || a == 88) at h1
    change Lib.foldEq b 109 = (b == 109 || b == 77) at h2
    change Lib.foldEq c 108 = (c == 108 || c == 76) at h3
    simp only [Ptr.isXml, Lib.equalFold, h1, h2, h3, Bool.and_true, Bool.and_assoc]
  | _ :: _ :: _ :: _ :: _ => simp [Ptr.isXml, Lib.equalFold]
theorem fold_high (a : UInt8) (n : Nat) (h : 97 ≤ n ∧ n ≤ 122) (ha : 128 ≤ a.toNat) : Lib.foldEq a (UInt8.ofNat n) = false := by
  have e1 : (UInt8.ofNat n).toNat = n := by rw [UInt8.toNat_ofNat', Nat.mod_eq_of_lt (by omega)]
  unfold Lib.foldEq
  rw [e1]
  exact decide_eq_false (by omega)

theorem lit_of (s : ByteArray) (i : Nat) (a : Act) (hd : a.defers = []) (hs : a.tmps.size = 123) (h0 : a.tmps.getD 0 undef = .string s) (h1 : a.tmps.getD 1 undef = .string ⟨#[120, 109, 108]⟩) (h5 : a.tmps.getD 5 undef = .int .i64 i) : ∃ u : Nat → Value, a = { tmps := #[.string s, .string ⟨#[120, 109, 108]⟩, u 2, u 3, u 4, .int .i64 i, u 6, u 7, u 8, u 9, u 10, u 11, u 12, u 13, u 14, u 15, u 16, u 17, u 18, u 19, u 20, u 21, u 22, u 23, u 24, u 25, u 26, u 27, u 28, u 29, u 30, u 31, u 32, u 33, u 34, u 35, u 36, u 37, u 38, u 39, u 40, u 41, u 42, u 43, u 44, u 45, u 46, u 47, u 48, u 49, u 50, u 51, u 52, u 53, u 54, u 55, u 56, u 57, u 58, u 59, u 60, u 61, u 62, u 63, u 64, u 65, u 66, u 67, u 68, u 69, u 70, u 71, u 72, u 73, u 74, u 75, u 76, u 77, u 78, u 79, u 80, u 81, u 82, u 83, u 84, u 85, u 86, u 87, u 88, u 89, u 90, u 91, u 92, u 93, u 94, u 95, u 96, u 97, u 98, u 99, u 100, u 101, u 102, u 103, u 104, u 105, u 106, u 107, u 108, u 109, u 110, u 111, u 112, u 113, u 114, u 115, u 116, u 117, u 118, u 119, u 120, u 121, u 122], defers := [] } := by
  refine ⟨fun k => a.tmps.getD k undef, ?_⟩
  obtain ⟨t, d⟩ := a
  simp only at hd hs h0 h1 h5 ⊢
  subst hd
  rw [← h0, ← h1, ← h5]
  congr 1
  apply Array.ext
  · rw [hs]; rfl
  · intro k hk _
    have : ∀ k, k < 123 → ((List.range 123).map fun k => t.getD k undef)[k]? = some (t.getD k undef) := fun k hk => by
      rw [List.getElem?_map, List.getElem?_range hk]; rfl
    have h := this k (by omega)
    rw [show t.getD k undef = t[k] by simp [Array.getD, hk]] at h
    obtain ⟨_, h⟩ := List.getElem?_eq_some_iff.1 h
    exact h.symm
set_option maxHeartbeats 8000000 in
set_option maxRecDepth 1000000 in
theorem fold_any (s : ByteArray) (w : World) (hs : s.size ≤ 9223372036854775807) (ht : FoldTab w) :
    Calls Tryz.prog 78 #[.string s, .string ⟨#[120, 109, 108]⟩] w fun e w' => e = .returned (.bool (Ptr.isXml s.data.toList)) ∧ Below w.heap.size w w' := by
  obtain ⟨M, hM⟩ : ∃ M : Nat, min (s.size : Int) 3 = (M : Int) := ⟨min s.size 3, by omega⟩
  have hMs : M ≤ s.size := by omega
  have hMt : M ≤ 3 := by omega
  have hMe : M = s.size ∨ M = 3 := by omega
  have hX : Kept (Ptr.isXml s.data.toList = Lib.equalFold s.data.toList [120, 109, 108]) := ⟨xml_fold _⟩
  have HT := Kept.mk ht
  clear ht
  go_enter Tryz.func78, Tryz.ntmps78
  go_wp2
  refine wp_scope_jumps 0 (fun a' w' => w = w' ∧ ∃ (i : Nat) (hi : i < s.size), i < 3 ∧ 128 ≤ (s[i]'hi).toNat ∧ Kept (Ptr.isXml s.data.toList = false) ∧ ∃ u : Nat → Value, a' = { tmps := #[.string s, .string ⟨#[120, 109, 108]⟩, u 2, u 3, u 4, .int .i64 i, u 6, u 7, u 8, u 9, u 10, u 11, u 12, u 13, u 14, u 15, u 16, u 17, u 18, u 19, u 20, u 21, u 22, u 23, u 24, u 25, u 26, u 27, u 28, u 29, u 30, u 31, u 32, u 33, u 34, u 35, u 36, u 37, u 38, u 39, u 40, u 41, u 42, u 43, u 44, u 45, u 46, u 47, u 48, u 49, u 50, u 51, u 52, u 53, u 54, u 55, u 56, u 57, u 58, u 59, u 60, u 61, u 62, u 63, u 64, u 65, u 66, u 67, u 68, u 69, u 70, u 71, u 72, u 73, u 74, u 75, u 76, u 77, u 78, u 79, u 80, u 81, u 82, u 83, u 84, u 85, u 86, u 87, u 88, u 89, u 90, u 91, u 92, u 93, u 94, u 95, u 96, u 97, u 98, u 99, u 100, u 101, u 102, u 103, u 104, u 105, u 106, u 107, u 108, u 109, u 110, u 111, u 112, u 113, u 114, u 115, u 116, u 117, u 118, u 119, u 120, u 121, u 122], defers := [] }) (fun _ _ => 0) rfl ?_ ?_
  · go_wp2
    go_loopg [5] M (fun g s5 wx => w = wx ∧ ∃ i : Nat, i + g = M ∧ s5 = .int .i64 i ∧ Lib.equalFold (s.data.toList.drop i) ([120, 109, 108].drop i) = Lib.equalFold s.data.toList [120, 109, 108])
    case atStart => exact ⟨rfl, 0, by omega, rfl, rfl⟩
    case round =>
      obtain ⟨rfl, i, hig, rfl, hinv⟩ := hrel
      have HI := Kept.mk hinv
      clear hinv hM
      cases gk with
      | zero =>
        have hiM : ¬ ((i : Int) < (M : Int)) := by omega
        obtain rfl : i = M := by omega
        have hE : Lib.equalFold s.data.toList [120, 109, 108] = decide (s.size = 3) := by
          rw [← HI.out, Lib.equalFold_end _ _ (by
            rcases hMe with h | h
            · exact Or.inl (List.drop_eq_nil_of_le (by rw [← Lib.size_eq]; omega))
            · exact Or.inr (List.drop_eq_nil_of_le (by simp; omega))), List.length_drop, List.length_drop, ← Lib.size_eq]
          exact decide_eq_decide.2 (by simp; omega)
        have HE := Kept.mk hE
        clear hE
        by_cases hst : s.size = 3
        · have hb : ((s.size : Int) == 3) = true := beq_iff_eq.2 (by omega)
          go_wp2
          simp only [Exit.jump]
          go_ret
          exact ⟨ret_bool (by rw [hX.out, HE.out]; simp [hst]), Below.refl _ _⟩
        · have hb : ((s.size : Int) == 3) = false := beq_eq_false_iff_ne.2 (by omega)
          go_wp2
          simp only [Exit.jump]
          go_ret
          exact ⟨ret_bool (by rw [hX.out, HE.out]; simp [hst]), Below.refl _ _⟩
      | succ g =>
        have hiM : (i : Int) < (M : Int) := by omega
        have hisz : (i : Int) < (s.size : Int) := by omega
        have hit : (i : Int) < 3 := by omega
        obtain ⟨x, hx⟩ : ∃ x : UInt8, s[i]'(by omega) = x := ⟨_, rfl⟩
        have hxl : s.data.toList[i]? = some x := by rw [← hx]; exact Lib.data_getElem? s i (by omega)
        have Hx := Kept.mk hxl
        have HX2 := Kept.mk hx
        clear hxl
        rcases (by omega : i = 0 ∨ i = 1 ∨ i = 2) with rfl | rfl | rfl

        · have hI : Lib.equalFold (x :: s.data.toList.drop (0 + 1)) (120 :: [109, 108]) = Lib.equalFold s.data.toList [120, 109, 108] := by rw [← HI.out, Lib.drop_at Hx.out]; rfl
          have HI2 := Kept.mk hI
          clear hI
          by_cases hx128 : x.toNat < 128
          · have hor : bits .or .u8 (x.toNat : Int) 120 = ((x.toNat ||| 120 : Nat) : Int) := u8_or_nat x.toNat 120 (by omega) (by omega)
            have hor128 : ¬ ((128 : Int) ≤ ((x.toNat ||| 120 : Nat) : Int)) := by have := Nat.or_lt_two_pow (n := 7) hx128 (show 120 < 2 ^ 7 by omega); omega
            have ht8 : ((⟨#[120, 109, 108]⟩ : ByteArray)[0]'(by decide)).toNat = 120 := rfl
            have ht9 : (120 : UInt8).toNat = 120 := rfl
            go_wp2
            all_goals (try simp only [beq_iff_eq, beq_eq_false_iff_ne, ne_eq] at *)
            all_goals first
              | (go_roundg g
                 case measure => omega
                 case rel => exact ⟨rfl, 1, by omega, by first | rfl | simp, by rw [← HI2.out, Lib.equalFold_yes _ _ _ _ (decide_eq_true (by omega))]; rfl⟩)
              | (simp only [Exit.jump]
                 go_ret
                 refine ⟨ret_bool ?_, Below.refl _ _⟩
                 rw [hX.out, ← HI2.out, Lib.equalFold_no _ _ _ _ (decide_eq_false (by omega))])
          · have hor : bits .or .u8 (x.toNat : Int) 120 = ((x.toNat ||| 120 : Nat) : Int) := u8_or_nat x.toNat 120 (by have := UInt8.toNat_lt x; omega) (by omega)
            have hor128 : ((128 : Int) ≤ ((x.toNat ||| 120 : Nat) : Int)) := by have := Nat.left_le_or (n := x.toNat) (m := 120); omega
            have ht8 : ((⟨#[120, 109, 108]⟩ : ByteArray)[0]'(by decide)).toNat = 120 := rfl
            have hF : Kept (Ptr.isXml s.data.toList = false) := ⟨by rw [hX.out, ← HI2.out, Lib.equalFold_no x 120 _ _ (fold_high x 120 (by omega) (by omega))]⟩
            go_wp2
            go_step3
            exact ⟨rfl, rfl, 0, by omega, by omega, by rw [HX2.out]; omega, hF, lit_of s 0 _ rfl rfl rfl rfl rfl⟩
        · have hI : Lib.equalFold (x :: s.data.toList.drop (1 + 1)) (109 :: [108]) = Lib.equalFold s.data.toList [120, 109, 108] := by rw [← HI.out, Lib.drop_at Hx.out]; rfl
          have HI2 := Kept.mk hI
          clear hI
          by_cases hx128 : x.toNat < 128
          · have hor : bits .or .u8 (x.toNat : Int) 109 = ((x.toNat ||| 109 : Nat) : Int) := u8_or_nat x.toNat 109 (by omega) (by omega)
            have hor128 : ¬ ((128 : Int) ≤ ((x.toNat ||| 109 : Nat) : Int)) := by have := Nat.or_lt_two_pow (n := 7) hx128 (show 109 < 2 ^ 7 by omega); omega
            have ht8 : ((⟨#[120, 109, 108]⟩ : ByteArray)[1]'(by decide)).toNat = 109 := rfl
            have ht9 : (109 : UInt8).toNat = 109 := rfl
            go_wp2
            all_goals (try simp only [beq_iff_eq, beq_eq_false_iff_ne, ne_eq] at *)
            all_goals first
              | (go_roundg g
                 case measure => omega
                 case rel => exact ⟨rfl, 2, by omega, by first | rfl | simp, by rw [← HI2.out, Lib.equalFold_yes _ _ _ _ (decide_eq_true (by omega))]; rfl⟩)
              | (simp only [Exit.jump]
                 go_ret
                 refine ⟨ret_bool ?_, Below.refl _ _⟩
                 rw [hX.out, ← HI2.out, Lib.equalFold_no _ _ _ _ (decide_eq_false (by omega))])
          · have hor : bits .or .u8 (x.toNat : Int) 109 = ((x.toNat ||| 109 : Nat) : Int) := u8_or_nat x.toNat 109 (by have := UInt8.toNat_lt x; omega) (by omega)
            have hor128 : ((128 : Int) ≤ ((x.toNat ||| 109 : Nat) : Int)) := by have := Nat.left_le_or (n := x.toNat) (m := 109); omega
            have ht8 : ((⟨#[120, 109, 108]⟩ : ByteArray)[1]'(by decide)).toNat = 109 := rfl
            have hF : Kept (Ptr.isXml s.data.toList = false) := ⟨by rw [hX.out, ← HI2.out, Lib.equalFold_no x 109 _ _ (fold_high x 109 (by omega) (by omega))]⟩
            go_wp2
            go_step3
            exact ⟨rfl, rfl, 1, by omega, by omega, by rw [HX2.out]; omega, hF, lit_of s 1 _ rfl rfl rfl rfl rfl⟩
        · have hI : Lib.equalFold (x :: s.data.toList.drop (2 + 1)) (108 :: []) = Lib.equalFold s.data.toList [120, 109, 108] := by rw [← HI.out, Lib.drop_at Hx.out]; rfl
          have HI2 := Kept.mk hI
          clear hI
          by_cases hx128 : x.toNat < 128
          · have hor : bits .or .u8 (x.toNat : Int) 108 = ((x.toNat ||| 108 : Nat) : Int) := u8_or_nat x.toNat 108 (by omega) (by omega)
            have hor128 : ¬ ((128 : Int) ≤ ((x.toNat ||| 108 : Nat) : Int)) := by have := Nat.or_lt_two_pow (n := 7) hx128 (show 108 < 2 ^ 7 by omega); omega
            have ht8 : ((⟨#[120, 109, 108]⟩ : ByteArray)[2]'(by decide)).toNat = 108 := rfl
            have ht9 : (108 : UInt8).toNat = 108 := rfl
            go_wp2
            all_goals (try simp only [beq_iff_eq, beq_eq_false_iff_ne, ne_eq] at *)
            all_goals first
              | (go_roundg g
                 case measure => omega
                 case rel => exact ⟨rfl, 3, by omega, by first | rfl | simp, by rw [← HI2.out, Lib.equalFold_yes _ _ _ _ (decide_eq_true (by omega))]; rfl⟩)
              | (simp only [Exit.jump]
                 go_ret
                 refine ⟨ret_bool ?_, Below.refl _ _⟩
                 rw [hX.out, ← HI2.out, Lib.equalFold_no _ _ _ _ (decide_eq_false (by omega))])
          · have hor : bits .or .u8 (x.toNat : Int) 108 = ((x.toNat ||| 108 : Nat) : Int) := u8_or_nat x.toNat 108 (by have := UInt8.toNat_lt x; omega) (by omega)
            have hor128 : ((128 : Int) ≤ ((x.toNat ||| 108 : Nat) : Int)) := by have := Nat.left_le_or (n := x.toNat) (m := 108); omega
            have ht8 : ((⟨#[120, 109, 108]⟩ : ByteArray)[2]'(by decide)).toNat = 108 := rfl
            have hF : Kept (Ptr.isXml s.data.toList = false) := ⟨by rw [hX.out, ← HI2.out, Lib.equalFold_no x 108 _ _ (fold_high x 108 (by omega) (by omega))]⟩
            go_wp2
            go_step3
            exact ⟨rfl, rfl, 2, by omega, by omega, by rw [HX2.out]; omega, hF, lit_of s 2 _ rfl rfl rfl rfl rfl⟩
  · rintro a' w' ⟨rfl, i, hi, hi3, hb, hF, u, rfl⟩
    have HB := Kept.mk hb
    clear hb hM hX
    rcases (by omega : i = 0 ∨ i = 1 ∨ i = 2) with rfl | rfl | rfl
    · have hS0 := HB.out
      have z0 : 0 < s.size := hi
      have HZ : Kept (128 ≤ (s[0]'z0).toNat) := ⟨hS0⟩
      clear hS0
      go_wp2
      go_loopg [1] 1 (fun g t1 wx => t1 = .string ⟨#[120, 109, 108]⟩ ∧ g = 1 ∧ wx.heap[w.heap.size]? = some (.stringIter s 0) ∧ Below w.heap.size w wx)
      case atStart => exact ⟨rfl, rfl, World.iter_heap w s 0, (Below.refl _ w).alloc (Nat.le_refl _) _⟩
      case round =>
        obtain ⟨rfl, rfl, hit, hbw⟩ := hrel
        have hsz : w.heap.size < wr.heap.size := (Array.getElem?_eq_some_iff.1 hit).1
        have hnx : ∀ ty, (Instr.next (.pointer (some ⟨w.heap.size, 0, none⟩)) true ty).run Tryz.prog wr = _ := fun ty => Lib.run_next_any_at wr w.heap.size s 0 ty hit z0
        have hdh := decode_high s 0 z0 HZ.out
        obtain ⟨R, hR⟩ : ∃ R, (Utf8.decode s 0).1 = R := ⟨_, rfl⟩
        obtain ⟨K, hK⟩ : ∃ K, (Utf8.decode s 0).2 = K := ⟨_, rfl⟩
        rw [hR] at hnx hdh
        rw [hK] at hnx
        have hbw2 := Lib.below_iterAt hbw (k := w.heap.size) (Nat.le_refl _) s (0 + K)
        obtain ⟨W, hWd⟩ : ∃ W, wr.iterAt w.heap.size s (0 + K) = W := ⟨_, rfl⟩
        rw [hWd] at hnx hbw2
        have hTW : Kept (FoldTab W) := ⟨HT.out.below hbw2⟩
        have HBW := Kept.mk hbw2
        have f1 : ((120 : Int) == (R : Int)) = false := by simp; omega
        have f2 : (120 : Int) < (R : Int) := by omega
        have f3 : ¬ (R : Int) < 128 := by omega
        have f4 : (88 : Int) < (R : Int) := by omega
        have f5 : ¬ (R : Int) < 120 := by omega
        clear hR hK hWd hdh hbw hbw2 hit
        go_wp2_with (first | (go_at_call 64; refine (dec_120 W).mono ?_; rintro e w2 ⟨rfl, rfl⟩) | (go_at_call 103; refine (sfold_120 W hTW.out).mono ?_; rintro e w3 ⟨rfl, rfl⟩))
        go_loopg [13] 2 (fun g r wx => W = wx ∧ ((g = 2 ∧ r = .int .i32 88) ∨ (g = 1 ∧ r = .int .i32 120)))
        case atStart => exact ⟨rfl, .inl ⟨rfl, rfl⟩⟩
        case round =>
          obtain ⟨rfl, ⟨rfl, rfl⟩ | ⟨rfl, rfl⟩⟩ := hrel
          · go_wp2_with (go_at_call 103; refine (sfold_88 W hTW.out).mono ?_; rintro e w3 ⟨rfl, rfl⟩)
            go_roundg 1
            case measure => omega
            case rel => exact ⟨rfl, .inr ⟨rfl, rfl⟩⟩
          · go_wp2
            simp only [Exit.jump]
            go_ret
            exact ⟨ret_bool hF.out.symm, HBW.out⟩
    · obtain ⟨S', hS'⟩ : ∃ S', s.extract 1 s.size = S' := ⟨_, rfl⟩
      have z0 : 0 < S'.size := by rw [← hS', ByteArray.size_extract]; omega
      have HZ : Kept (128 ≤ (S'[0]'z0).toNat) := ⟨by have h := HB.out; subst hS'; rw [ByteArray.getElem_extract]; exact h⟩
      have hT : (⟨#[120, 109, 108]⟩ : ByteArray).extract 1 3 = ⟨#[109, 108]⟩ := rfl
      have k0 : (1 : Int) ≤ (s.size : Int) := by omega
      go_wp2
      go_loopg [1] 1 (fun g t1 wx => t1 = .string ⟨#[109, 108]⟩ ∧ g = 1 ∧ wx.heap[w.heap.size]? = some (.stringIter S' 0) ∧ Below w.heap.size w wx)
      case atStart => exact ⟨rfl, rfl, World.iter_heap w S' 0, (Below.refl _ w).alloc (Nat.le_refl _) _⟩
      case round =>
        obtain ⟨rfl, rfl, hit, hbw⟩ := hrel
        have hsz : w.heap.size < wr.heap.size := (Array.getElem?_eq_some_iff.1 hit).1
        have hnx : ∀ ty, (Instr.next (.pointer (some ⟨w.heap.size, 0, none⟩)) true ty).run Tryz.prog wr = _ := fun ty => Lib.run_next_any_at wr w.heap.size S' 0 ty hit z0
        have hdh := decode_high S' 0 z0 HZ.out
        obtain ⟨R, hR⟩ : ∃ R, (Utf8.decode S' 0).1 = R := ⟨_, rfl⟩
        obtain ⟨K, hK⟩ : ∃ K, (Utf8.decode S' 0).2 = K := ⟨_, rfl⟩
        rw [hR] at hnx hdh
        rw [hK] at hnx
        have hbw2 := Lib.below_iterAt hbw (k := w.heap.size) (Nat.le_refl _) S' (0 + K)
        obtain ⟨W, hWd⟩ : ∃ W, wr.iterAt w.heap.size S' (0 + K) = W := ⟨_, rfl⟩
        rw [hWd] at hnx hbw2
        have hTW : Kept (FoldTab W) := ⟨HT.out.below hbw2⟩
        have HBW := Kept.mk hbw2
        have f1 : ((109 : Int) == (R : Int)) = false := by simp; omega
        have f2 : (109 : Int) < (R : Int) := by omega
        have f3 : ¬ (R : Int) < 128 := by omega
        have f4 : (77 : Int) < (R : Int) := by omega
        have f5 : ¬ (R : Int) < 109 := by omega
        clear hR hK hWd hdh hbw hbw2 hit
        go_wp2_with (first | (go_at_call 64; refine (dec_109 W).mono ?_; rintro e w2 ⟨rfl, rfl⟩) | (go_at_call 103; refine (sfold_109 W hTW.out).mono ?_; rintro e w3 ⟨rfl, rfl⟩))
        go_loopg [13] 2 (fun g r wx => W = wx ∧ ((g = 2 ∧ r = .int .i32 77) ∨ (g = 1 ∧ r = .int .i32 109)))
        case atStart => exact ⟨rfl, .inl ⟨rfl, rfl⟩⟩
        case round =>
          obtain ⟨rfl, ⟨rfl, rfl⟩ | ⟨rfl, rfl⟩⟩ := hrel
          · go_wp2_with (go_at_call 103; refine (sfold_77 W hTW.out).mono ?_; rintro e w3 ⟨rfl, rfl⟩)
            go_roundg 1
            case measure => omega
            case rel => exact ⟨rfl, .inr ⟨rfl, rfl⟩⟩
          · go_wp2
            simp only [Exit.jump]
            go_ret
            exact ⟨ret_bool hF.out.symm, HBW.out⟩
    · obtain ⟨S', hS'⟩ : ∃ S', s.extract 2 s.size = S' := ⟨_, rfl⟩
      have z0 : 0 < S'.size := by rw [← hS', ByteArray.size_extract]; omega
      have HZ : Kept (128 ≤ (S'[0]'z0).toNat) := ⟨by have h := HB.out; subst hS'; rw [ByteArray.getElem_extract]; exact h⟩
      have hT : (⟨#[120, 109, 108]⟩ : ByteArray).extract 2 3 = ⟨#[108]⟩ := rfl
      have k0 : (2 : Int) ≤ (s.size : Int) := by omega
      go_wp2
      go_loopg [1] 1 (fun g t1 wx => t1 = .string ⟨#[108]⟩ ∧ g = 1 ∧ wx.heap[w.heap.size]? = some (.stringIter S' 0) ∧ Below w.heap.size w wx)
      case atStart => exact ⟨rfl, rfl, World.iter_heap w S' 0, (Below.refl _ w).alloc (Nat.le_refl _) _⟩
      case round =>
        obtain ⟨rfl, rfl, hit, hbw⟩ := hrel
        have hsz : w.heap.size < wr.heap.size := (Array.getElem?_eq_some_iff.1 hit).1
        have hnx : ∀ ty, (Instr.next (.pointer (some ⟨w.heap.size, 0, none⟩)) true ty).run Tryz.prog wr = _ := fun ty => Lib.run_next_any_at wr w.heap.size S' 0 ty hit z0
        have hdh := decode_high S' 0 z0 HZ.out
        obtain ⟨R, hR⟩ : ∃ R, (Utf8.decode S' 0).1 = R := ⟨_, rfl⟩
        obtain ⟨K, hK⟩ : ∃ K, (Utf8.decode S' 0).2 = K := ⟨_, rfl⟩
        rw [hR] at hnx hdh
        rw [hK] at hnx
        have hbw2 := Lib.below_iterAt hbw (k := w.heap.size) (Nat.le_refl _) S' (0 + K)
        obtain ⟨W, hWd⟩ : ∃ W, wr.iterAt w.heap.size S' (0 + K) = W := ⟨_, rfl⟩
        rw [hWd] at hnx hbw2
        have hTW : Kept (FoldTab W) := ⟨HT.out.below hbw2⟩
        have HBW := Kept.mk hbw2
        have f1 : ((108 : Int) == (R : Int)) = false := by simp; omega
        have f2 : (108 : Int) < (R : Int) := by omega
        have f3 : ¬ (R : Int) < 128 := by omega
        have f4 : (76 : Int) < (R : Int) := by omega
        have f5 : ¬ (R : Int) < 108 := by omega
        clear hR hK hWd hdh hbw hbw2 hit
        go_wp2_with (first | (go_at_call 64; refine (dec_108 W).mono ?_; rintro e w2 ⟨rfl, rfl⟩) | (go_at_call 103; refine (sfold_108 W hTW.out).mono ?_; rintro e w3 ⟨rfl, rfl⟩))
        go_loopg [13] 2 (fun g r wx => W = wx ∧ ((g = 2 ∧ r = .int .i32 76) ∨ (g = 1 ∧ r = .int .i32 108)))
        case atStart => exact ⟨rfl, .inl ⟨rfl, rfl⟩⟩
        case round =>
          obtain ⟨rfl, ⟨rfl, rfl⟩ | ⟨rfl, rfl⟩⟩ := hrel
          · go_wp2_with (go_at_call 103; refine (sfold_76 W hTW.out).mono ?_; rintro e w3 ⟨rfl, rfl⟩)
            go_roundg 1
            case measure => omega
            case rel => exact ⟨rfl, .inr ⟨rfl, rfl⟩⟩
          · go_wp2
            simp only [Exit.jump]
            go_ret
            exact ⟨ret_bool hF.out.symm, HBW.out⟩
end Go.Proofs.YtemfmidhekdekaaGreatDoor.Wtr
namespace Go.Proofs.YtemfmidhekdekaaGreatDoor.Wtr
open Go Go.RowKit Go.ChangeShapes Go.WideShapes Go.Deep Go.Proofs.YtemfmidhekdekaaGreatDoor.Kb

section
variable {H : Type} {enc : TypeId × Value → H} {P : Program} {w : World} {base : Nat} {spare : Nat → Bool} {held : Bool}
theorem open_slice_fields {t e : TypeId} {fs : Array Field} {fuel : Nat} {cs : List Value} {x : DataW H × List MemPlace} (ht : P.underlying t = some (.slice e)) (he : P.underlying e = some (.struct fs))
    (hone : oneCellFields P fs = true) (hC : P.cellsOf e = fs.size) (h : DataW.trod enc P w base spare held fuel t cs = some x) :
    (cs = [.slice none 0 0]) ∨
    ∃ (a : Addr) (len cap : Nat), cs = [.slice (some a) len cap] ∧ len ≤ cap ∧ cap ≤ maxLen ∧
      ∀ i, i < len → ∃ (n : Nat), ∀ (j : Nat) (f : Field), fs[j]? = some f → ∃ (v : Value) (y : DataW H × List MemPlace), w.cell? (a.add (i * fs.size + j)) = some v ∧ DataW.trod enc P w base spare held n f.type [v] = some y := by
  rcases open_slice ht h with ⟨h0, _⟩ | ⟨a, len, cap, m, n, D, Pl, hcs, hb, hl, hm, hmm, hx, hi⟩
  · exact .inl h0
  · refine .inr ⟨a, len, cap, hcs, hl, hm, fun i him => ?_⟩
    obtain ⟨cs', hc, ht'⟩ := hi i (by rw [hmm]; split <;> omega)
    rw [hC] at hc
    obtain ⟨ys, n', hn', hy, hlen, hyl, hf⟩ := DataW.trod_struct he ht'
    obtain ⟨_, hcl, hat⟩ := World.cells?_some hc
    refine ⟨n', fun j f hj => ?_⟩
    obtain ⟨ho, hk⟩ := hone_of hone j f hj
    have hjl : j < fs.size := (Array.getElem?_eq_some_iff.1 hj).1
    have hcell := hat j hjl
    have hv : cs'[j]? = some (cs'[j]'(by omega)) := List.getElem?_eq_getElem (by omega)
    have h1 := hf j f hj
    rw [ho, hk] at h1
    have hone' : (cs'.drop j).take 1 = [cs'[j]'(by omega)] := by
      rw [List.drop_eq_getElem_cons (by omega)]
      rfl
    rw [hone'] at h1
    have hys : ys[j]? = some (ys[j]'(by omega)) := List.getElem?_eq_getElem (by omega)
    refine ⟨_, _, ?_, h1.trans hys⟩
    rw [← Go.Deep.add_add, hcell, hv]
end
/-- nodes as cells -/
def ndC (x : Ptr.Nd) : List Value := [.int .u8 x.1, .string ⟨x.2.1.toArray⟩, .string ⟨x.2.2.1.toArray⟩, .int .i64 x.2.2.2]
def ndsC (l : List Ptr.Nd) : List Value := l.flatMap ndC
theorem ndsC_append (l m : List Ptr.Nd) : ndsC (l ++ m) = ndsC l ++ ndsC m := by simp [ndsC]
theorem ndsC_length (l : List Ptr.Nd) : (ndsC l).length = l.length * 4 := by
  induction l with
  | nil => rfl
  | cons x l ih => rw [show ndsC (x :: l) = ndC x ++ ndsC l from rfl, List.length_append, ih]; simp [ndC]; omega
theorem ndsC_get : ∀ (l : List Ptr.Nd) (j : Nat) (x : Ptr.Nd) (i : Nat), l[j]? = some x → i < 4 → (ndsC l)[j * 4 + i]? = (ndC x)[i]?
  | [], j, x, i, h, _ => by simp at h
  | y :: l, 0, x, i, h, hi => by
    simp only [List.getElem?_cons_zero, Option.some.injEq] at h
    subst h
    rw [show ndsC (y :: l) = ndC y ++ ndsC l from rfl, Nat.zero_mul, Nat.zero_add, List.getElem?_append_left (by simp [ndC]; omega)]
  | y :: l, j + 1, x, i, h, hi => by
    rw [List.getElem?_cons_succ] at h
    rw [show ndsC (y :: l) = ndC y ++ ndsC l from rfl, List.getElem?_append_right (by simp [ndC]; omega), ← ndsC_get l j x i h hi]
    congr 1
    simp [ndC]
    omega
theorem ndsC_one (l : List Ptr.Nd) : ∀ u ∈ ndsC l, u.oneCell' = true := by
  intro u hu
  obtain ⟨x, _, hx⟩ := List.mem_flatMap.1 hu
  simp only [ndC, List.mem_cons, List.mem_nil_iff, or_false] at hx
  rcases hx with rfl | rfl | rfl | rfl <;> rfl
/-- the four cells of a node -/
def NdAt (w : World) (b o : Nat) (x : Ptr.Nd) : Prop :=
  w.cell? ⟨b, o, none⟩ = some (.int .u8 x.1) ∧ w.cell? ⟨b, o + 1, none⟩ = some (.string ⟨x.2.1.toArray⟩) ∧ w.cell? ⟨b, o + 2, none⟩ = some (.string ⟨x.2.2.1.toArray⟩) ∧ w.cell? ⟨b, o + 3, none⟩ = some (.int .i64 x.2.2.2)
/-- the slice at A reads as these nodes (nothing is said of an empty one) -/
def RdN (w : World) (A : Option Addr) (l : List Ptr.Nd) : Prop :=
  l ≠ [] → ∃ b off, A = some ⟨b, off, none⟩ ∧ ∀ j x, l[j]? = some x → NdAt w b (off + j * 4) x
theorem cell_keep {w w' : World} {g i : Nat} {v : Value} (hb : Below w.heap.size w w') (h : w.cell? ⟨g, i, none⟩ = some v) : w'.cell? ⟨g, i, none⟩ = some v := by
  rw [hb.cell (p := ⟨g, i, none⟩) (Kb.cell_lt h)]
  exact h
theorem NdAt.below {w w' : World} {b o : Nat} {x : Ptr.Nd} (h : NdAt w b o x) (hb : Below w.heap.size w w') : NdAt w' b o x :=
  ⟨cell_keep hb h.1, cell_keep hb h.2.1, cell_keep hb h.2.2.1, cell_keep hb h.2.2.2⟩
theorem RdN.below {w w' : World} {A : Option Addr} {l : List Ptr.Nd} (h : RdN w A l) (hb : Below w.heap.size w w') : RdN w' A l := by
  intro hne
  obtain ⟨b, off, hA, hc⟩ := h hne
  exact ⟨b, off, hA, fun j x hx => (hc j x hx).below hb⟩
theorem RdN.drewN {w : World} {A : Option Addr} {l : List Ptr.Nd} (h : RdN w A l) (n : Nat) : RdN (w.drewN n) A l := by
  induction n generalizing w with
  | zero => exact h
  | succ n ih => exact ih (w := w.drew) h
theorem nd_get {l : List Ptr.Nd} {i : Nat} (h : i < l.length) : l[i]? = some (Ptr.kin l i, Ptr.nam l i, Ptr.val l i, Ptr.par l i) := by
  unfold Ptr.kin Ptr.nam Ptr.val Ptr.par
  rw [List.getD_eq_getElem?_getD, List.getElem?_eq_getElem h]
  rfl
/-- node i's cells -/
theorem RdN.at_ {w : World} {A : Option Addr} {l : List Ptr.Nd} (h : RdN w A l) {i : Nat} (hi : i < l.length) :
    ∃ b off, A = some ⟨b, off, none⟩ ∧ NdAt w b (off + i * 4) (Ptr.kin l i, Ptr.nam l i, Ptr.val l i, Ptr.par l i) := by
  obtain ⟨b, off, hA, hc⟩ := h (by intro e; subst e; simp at hi)
  exact ⟨b, off, hA, hc i _ (nd_get hi)⟩
/-- node i's cells in a row whose address is known -/
theorem RdN.cells {w : World} {b off : Nat} {l : List Ptr.Nd} (h : RdN w (some ⟨b, off, none⟩) l) {i : Nat} (hi : i < l.length) : NdAt w b (off + i * 4) (Ptr.kin l i, Ptr.nam l i, Ptr.val l i, Ptr.par l i) := by
  obtain ⟨b', off', e, hc⟩ := h.at_ hi
  cases e
  exact hc
theorem rdn_of_own {w : World} {base n c : Nat} {A : Option Addr} {l : List Ptr.Nd} (h : w.ownsRow base 32 4 (.slice A n c) n (ndsC l)) : RdN w A l := by
  intro hne
  have hl := h.1
  rw [ndsC_length] at hl
  have hp := List.length_pos_iff.2 hne
  rcases h.2 with ⟨e, hx⟩ | ⟨g, cap, cur, hv, _⟩
  · exfalso; omega
  · injection hv with hA
    subst hA
    refine ⟨g, 0, rfl, fun j x hx => ?_⟩
    have hc := fun i u hi (hu : (ndC x)[i]? = some u) => h.cells (g := g) rfl (j * 4 + i) u (by rw [ndsC_get l j x i hx hi]; exact hu)
    simp only [Kb.add_lit, Nat.zero_add] at hc
    simp only [Nat.zero_add]
    exact ⟨hc 0 _ (by omega) rfl, hc 1 _ (by omega) rfl, hc 2 _ (by omega) rfl, hc 3 _ (by omega) rfl⟩
theorem rdn_lit (w : World) (L : List Ptr.Nd) (t : TypeId) : RdN (w.alloc (.cells (ndsC L).toArray t)) (some ⟨w.heap.size, 0, none⟩) L := by
  intro _
  refine ⟨w.heap.size, 0, rfl, fun j x hx => ?_⟩
  have hc := fun i u hi (hu : (ndC x)[i]? = some u) => (show (w.alloc (.cells (ndsC L).toArray t)).cell? ⟨w.heap.size, j * 4 + i, none⟩ = some u by
    rw [World.cell?_alloc_new, List.getElem?_toArray, ndsC_get L j x i hx hi]
    exact hu)
  simp only [Nat.zero_add]
  exact ⟨hc 0 _ (by omega) rfl, hc 1 _ (by omega) rfl, hc 2 _ (by omega) rfl, hc 3 _ (by omega) rfl⟩
theorem infoN : (Tryz.prog.info? 32).map (fun i => (i.zero, i.size, i.bytes)) = some (some (.agg #[.int .u8 0, .string ⟨#[]⟩, .string ⟨#[]⟩, .int .i64 0]), 4, 48) := by kernel_rfl
/-- places and texts of nodes that came in -/
def FitN (l : List Ptr.Nd) : Prop := ∀ x ∈ l, x.1 ≤ 255 ∧ x.2.1.length ≤ 9223372036854775807 ∧ x.2.2.1.length ≤ 9223372036854775807 ∧ -9223372036854775808 ≤ x.2.2.2 ∧ x.2.2.2 ≤ 9223372036854775807
def CellsN (W : World) (b o : Nat) (x : Ptr.Nd) : Prop := NdAt W b o x ∧ x.1 ≤ 255 ∧ x.2.1.length ≤ 9223372036854775807 ∧ x.2.2.1.length ≤ 9223372036854775807 ∧ -9223372036854775808 ≤ x.2.2.2 ∧ x.2.2.2 ≤ 9223372036854775807
theorem addr_add (b o k : Nat) : (⟨b, o, none⟩ : Addr).add k = ⟨b, o + k, none⟩ := by unfold Addr.add; by_cases h : k = 0 <;> simp [h]
set_option maxRecDepth 100000 in
theorem open_nodes {H : Type} {enc : TypeId × Value → H} {W : World} {base : Nat} {v : Value} {d : DataW H} {p : List MemPlace} (hval : Value.okWide Tryz.prog W .any base 23 v) (h : DataW.Trod enc Tryz.prog W 0 (fun _ => true) true 23 v d p) :
    ∃ (A : Option Addr) (l : List Ptr.Nd) (c : Nat), v = .slice A l.length c ∧ l.length ≤ c ∧ c ≤ maxLen ∧ RdN W A l ∧ FitN l := by
  obtain ⟨a1, len, cap, rfl⟩ := okWide_slice Tryz.underlying23 hval
  obtain ⟨fuel, hf⟩ := h
  rcases open_slice_fields Tryz.underlying23 Tryz.underlying32 (by kernel_rfl) (by kernel_rfl) hf with hcs | ⟨a, len', cap', hcs, hl, hm, hcell⟩
  · simp [Value.cells] at hcs
    obtain ⟨rfl, rfl, rfl⟩ := hcs
    exact ⟨none, [], 0, rfl, Nat.le_refl _, Nat.zero_le _, fun h => absurd rfl h, fun x hx => by cases hx⟩
  · simp [Value.cells] at hcs
    obtain ⟨rfl, rfl, rfl⟩ := hcs
    obtain ⟨ab, ao, spot⟩ := a
    have hsp : 0 < len → spot = none := fun h0 => by
      obtain ⟨n, hc⟩ := hcell 0 h0
      obtain ⟨v0, y0, c0, _⟩ := hc 0 _ rfl
      simpa [Addr.add] using World.cell?_spot c0
    have key : ∀ i, i < len → ∃ x : Ptr.Nd, spot = none ∧ CellsN W ab (ao + i * 4) x := by
      intro i hi
      obtain ⟨n, hc⟩ := hcell i hi
      obtain ⟨v0, y0, c0, t0⟩ := hc 0 _ rfl
      obtain ⟨v1, y1, c1, t1⟩ := hc 1 _ rfl
      obtain ⟨v2, y2, c2, t2⟩ := hc 2 _ rfl
      obtain ⟨v3, y3, c3, t3⟩ := hc 3 _ rfl
      obtain ⟨zk, e0, rfl, wk⟩ := DataW.trod_int Tryz.underlying30 t0
      obtain ⟨x, e1, rfl, hx⟩ := DataW.trod_string Tryz.underlying9 t1
      obtain ⟨y, e2, rfl, hy⟩ := DataW.trod_string Tryz.underlying9 t2
      obtain ⟨A, e3, rfl, wA⟩ := DataW.trod_int Tryz.underlying3 t3
      simp only [List.cons.injEq, and_true] at e0 e1 e2 e3
      subst e0 e1 e2 e3
      have wk : 0 ≤ zk ∧ zk ≤ 255 := by simpa [Lit.wf, IntKind.min, IntKind.max, IntKind.signed, IntKind.bits] using wk
      have wA : -9223372036854775808 ≤ A ∧ A ≤ 9223372036854775807 := by simpa [Lit.wf, IntKind.min, IntKind.max, IntKind.signed, IntKind.bits] using wA
      obtain ⟨k, rfl⟩ : ∃ m : Nat, zk = m := ⟨zk.toNat, by omega⟩
      have hspot := hsp (by omega)
      subst hspot
      rw [addr_add] at c0 c1 c2 c3
      have hx' : x.data.toList.length ≤ 9223372036854775807 := by rw [Array.length_toList]; exact hx
      have hy' : y.data.toList.length ≤ 9223372036854775807 := by rw [Array.length_toList]; exact hy
      exact ⟨(k, x.data.toList, y.data.toList, A), rfl, ⟨c0, c1, c2, c3⟩, by omega, hx', hy', wA.1, wA.2⟩
    obtain ⟨f, hf'⟩ := choose_lt key
    have hlen : ((List.range len).map f).length = len := by simp
    refine ⟨some ⟨ab, ao, spot⟩, (List.range len).map f, cap, by rw [hlen], by rw [hlen]; exact hl, hm, fun hne => ?_, fun x hx => ?_⟩
    · have h0 : 0 < len := by
        rcases Nat.eq_zero_or_pos len with h0 | h0
        · subst h0; simp at hne
        · exact h0
      obtain ⟨rfl, _⟩ := hf' 0 h0
      refine ⟨ab, ao, rfl, fun j x hx => ?_⟩
      have hj : j < len := by rw [← hlen]; exact (List.getElem?_eq_some_iff.1 hx).1
      rw [List.getElem?_map, List.getElem?_range hj] at hx
      simp only [Option.map_some, Option.some.injEq] at hx
      subst hx
      exact (hf' j hj).2.1
    · obtain ⟨j, hj, rfl⟩ := List.mem_map.1 hx
      exact (hf' j (List.mem_range.1 hj)).2.2
end Go.Proofs.YtemfmidhekdekaaGreatDoor.Wtr
