/- Plain facts about characters, runes of a byte list and the words of chapter 5: no program in sight. -/
import Derived.Lib.ValidLaws
import Derived.Lib.MapLaws
import Derived.Lib.SlTrimSet
namespace Go.Proofs.YtlemdhfekdiaeaaGreatDoor.Pch
open Go Go.Lib

/-- a character of texts -/
def charB (r : Int) : Bool := decide (r = 9 ∨ r = 10 ∨ r = 13 ∨ (32 ≤ r ∧ r ≤ 55295) ∨ (57344 ≤ r ∧ r ≤ 65533) ∨ (65536 ≤ r ∧ r ≤ 1114111))
def startT : List (Int × Int) := [(65, 90), (95, 95), (97, 122), (192, 214), (216, 246), (248, 767), (880, 893), (895, 8191), (8204, 8205), (8304, 8591), (11264, 12271), (12289, 55295), (63744, 64975), (65008, 65533), (65536, 983039)]
def otherT : List (Int × Int) := [(45, 46), (48, 57), (183, 183), (768, 879), (8255, 8256)]
def inT (t : List (Int × Int)) (r : Int) : Bool := t.any fun p => decide (p.1 ≤ r ∧ r ≤ p.2)
def startB (r : Int) : Bool := inT startT r
def nameB (r : Int) : Bool := inT startT r || inT otherT r

theorem charB_iff (r : Int) : charB r = true ↔ (r = 9 ∨ r = 10 ∨ r = 13 ∨ (32 ≤ r ∧ r ≤ 55295) ∨ (57344 ≤ r ∧ r ≤ 65533) ∨ (65536 ≤ r ∧ r ≤ 1114111)) := by simp [charB]
theorem inT_nil (r : Int) : inT [] r = false := rfl
theorem inT_cons (p : Int × Int) (t : List (Int × Int)) (r : Int) : inT (p :: t) r = (decide (p.1 ≤ r ∧ r ≤ p.2) || inT t r) := rfl
theorem startB_iff (r : Int) : startB r = true ↔ (65 ≤ r ∧ r ≤ 90) ∨ (95 ≤ r ∧ r ≤ 95) ∨ (97 ≤ r ∧ r ≤ 122) ∨ (192 ≤ r ∧ r ≤ 214) ∨ (216 ≤ r ∧ r ≤ 246) ∨ (248 ≤ r ∧ r ≤ 767) ∨ (880 ≤ r ∧ r ≤ 893) ∨ (895 ≤ r ∧ r ≤ 8191) ∨ (8204 ≤ r ∧ r ≤ 8205) ∨ (8304 ≤ r ∧ r ≤ 8591) ∨ (11264 ≤ r ∧ r ≤ 12271) ∨ (12289 ≤ r ∧ r ≤ 55295) ∨ (63744 ≤ r ∧ r ≤ 64975) ∨ (65008 ≤ r ∧ r ≤ 65533) ∨ (65536 ≤ r ∧ r ≤ 983039) := by
  simp [startB, startT, inT_cons, inT_nil]
theorem otherB_iff (r : Int) : inT otherT r = true ↔ (45 ≤ r ∧ r ≤ 46) ∨ (48 ≤ r ∧ r ≤ 57) ∨ (183 ≤ r ∧ r ≤ 183) ∨ (768 ≤ r ∧ r ≤ 879) ∨ (8255 ≤ r ∧ r ≤ 8256) := by
  simp [otherT, inT_cons, inT_nil]
theorem nameB_iff (r : Int) : nameB r = true ↔ startB r = true ∨ inT otherT r = true := by simp [nameB, startB]
theorem name_of_start {r : Int} (h : startB r = true) : nameB r = true := (nameB_iff r).2 (.inl h)
theorem char_of_name {r : Int} (h : nameB r = true) : charB r = true := by
  rw [nameB_iff, startB_iff, otherB_iff] at h
  simp only [charB, decide_eq_true_eq]
  omega

/-! ### runes of a byte list -/
def runesGo : Nat → List UInt8 → List (Nat × Nat)
  | 0, _ => []
  | n + 1, l => if l = [] then [] else decodeL l :: runesGo n (l.drop (decodeL l).2)
def runes (l : List UInt8) : List (Nat × Nat) := runesGo l.length l
theorem runesGo_nil : ∀ n, runesGo n [] = []
  | 0 => rfl
  | _ + 1 => by simp [runesGo]
theorem runesGo_fuel : ∀ (n m : Nat) (l : List UInt8), l.length ≤ n → l.length ≤ m → runesGo n l = runesGo m l
  | 0, m, l, hn, _ => by
    have : l = [] := List.eq_nil_of_length_eq_zero (by omega)
    subst this
    rw [runesGo_nil, runesGo_nil]
  | n + 1, 0, l, _, hm => by
    have : l = [] := List.eq_nil_of_length_eq_zero (by omega)
    subst this
    rw [runesGo_nil, runesGo_nil]
  | n + 1, m + 1, l, hn, hm => by
    by_cases hne : l = []
    · subst hne
      rw [runesGo_nil, runesGo_nil]
    · have hw := decodeL_width l
      have hl : 0 < l.length := List.length_pos_iff.2 hne
      simp only [runesGo, if_neg hne]
      rw [runesGo_fuel n m _ (by rw [List.length_drop]; omega) (by rw [List.length_drop]; omega)]
theorem runes_nil : runes [] = [] := rfl
theorem runes_step (l : List UInt8) (hne : l ≠ []) : runes l = decodeL l :: runes (l.drop (decodeL l).2) := by
  have hw := decodeL_width l
  have hl : 0 < l.length := List.length_pos_iff.2 hne
  unfold runes
  obtain ⟨n, hn⟩ : ∃ n, l.length = n + 1 := ⟨l.length - 1, by omega⟩
  rw [hn]
  simp only [runesGo, if_neg hne]
  rw [runesGo_fuel n _ _ (by rw [List.length_drop]; omega) (Nat.le_refl _)]

/-- a rune that stands in right bytes -/
def okR (p : Nat × Nat) : Bool := !decide (p.1 = 65533 ∧ p.2 = 1)
theorem validGoD_runes : ∀ (n : Nat) (l : List UInt8), validGoD n l = (runesGo n l).all okR
  | 0, _ => rfl
  | n + 1, l => by
    unfold validGoD runesGo
    by_cases hne : l = []
    · simp [hne]
    · rw [if_neg hne, if_neg hne, List.all_cons, ← validGoD_runes n]
      by_cases hb : (decodeL l).1 = 65533 ∧ (decodeL l).2 = 1 <;> simp [okR, hb]
theorem validD_runes (l : List UInt8) : validD l = (runes l).all okR := validGoD_runes _ _

/-- texts, names, blanks: chapter 5's words -/
def textsL (l : List UInt8) : Bool := (runes l).all fun p => okR p && charB p.1
def headB : List (Nat × Nat) → Bool
  | [] => false
  | p :: ps => okR p && startB p.1 && ps.all fun p => okR p && nameB p.1
def nameL (l : List UInt8) : Bool := decide (l.length ≤ 100) && headB (runes l)
def blankC (c : UInt8) : Bool := c == 9 || c == 10 || c == 13 || c == 32
def blankL (l : List UInt8) : Bool := l.all blankC

/-- what the program's loops compute -/
def loopTexts (ps : List (Nat × Nat)) : Bool := ps.all fun p => charB p.1
def loopName : Bool → List (Nat × Nat) → Bool
  | _, [] => true
  | first, p :: ps => nameB p.1 && (!first || startB p.1) && loopName false ps
theorem loopName_false : ∀ ps : List (Nat × Nat), loopName false ps = ps.all fun p => nameB p.1
  | [] => rfl
  | p :: ps => by simp [loopName, loopName_false ps]
theorem all_and {α : Type} (f g : α → Bool) : ∀ l : List α, (l.all fun x => f x && g x) = (l.all f && l.all g)
  | [] => rfl
  | x :: l => by
    simp only [List.all_cons, all_and f g l]
    cases f x <;> cases g x <;> simp
theorem texts_prog (l : List UInt8) : (loopTexts (runes l) && validD l) = textsL l := by
  rw [validD_runes, textsL, all_and, loopTexts, Bool.and_comm]
theorem head_prog : ∀ ps : List (Nat × Nat), (loopName true ps && !ps.isEmpty && ps.all okR) = headB ps
  | [] => rfl
  | p :: ps => by
    have hh : (ps.all fun p => okR p && nameB p.1) = (ps.all okR && ps.all fun p => nameB p.1) := all_and _ _ ps
    simp only [loopName, headB, loopName_false, List.all_cons, List.isEmpty_cons, hh]
    by_cases h : startB (p.1 : Int) = true
    · rw [name_of_start h, h]
      cases okR p <;> cases (ps.all okR) <;> cases (ps.all fun p => nameB p.1) <;> rfl
    · rw [Bool.not_eq_true] at h
      rw [h]
      cases okR p <;> cases (ps.all okR) <;> cases (ps.all fun p => nameB p.1) <;> cases nameB (p.1 : Int) <;> rfl
theorem runes_isEmpty (l : List UInt8) : (runes l).isEmpty = l.isEmpty := by
  cases l with
  | nil => rfl
  | cons c t => rw [runes_step _ (by simp)]; rfl
theorem name_prog (l : List UInt8) : (loopName true (runes l) && (!l.isEmpty && decide (l.length ≤ 100) && validD l)) = nameL l := by
  rw [nameL, ← head_prog, validD_runes, runes_isEmpty]
  cases loopName true (runes l) <;> cases l.isEmpty <;> cases decide (l.length ≤ 100) <;> simp

/-! ### where two texts meet -/
theorem getD_app (s t : List UInt8) (i : Nat) (h : i < s.length) : (s ++ t).getD i 0 = s.getD i 0 := by
  simp [List.getD, List.getElem?_append_left h]
/-- bytes that the rune in front does not take are idle -/
theorem decodeN_more (n n' b0 b1 b2 b3 b1' b2' b3' : Nat) (hn : 1 ≤ n) (hn' : n ≤ n') (e1 : 1 < n → b1' = b1) (e2 : 2 < n → b2' = b2) (e3 : 3 < n → b3' = b3) (hok : decodeN n b0 b1 b2 b3 ≠ (65533, 1)) :
    decodeN n' b0 b1' b2' b3' = decodeN n b0 b1 b2 b3 := by
  by_cases h1 : 1 < n
  · obtain rfl := e1 h1
    by_cases h2 : 2 < n
    · obtain rfl := e2 h2
      by_cases h3 : 3 < n
      · obtain rfl := e3 h3
        have a1 : 1 < n' := by omega
        have a2 : 2 < n' := by omega
        have a3 : 3 < n' := by omega
        simp only [decodeN, h1, h2, h3, a1, a2, a3]
      · have a1 : 1 < n' := by omega
        have a2 : 2 < n' := by omega
        simp only [decodeN, h1, h2, h3, a1, a2, true_and, false_and, and_false, if_false] at hok ⊢
        repeat' split
        all_goals first | rfl | (exfalso; omega) | simp_all
    · have a1 : 1 < n' := by omega
      simp only [decodeN, h1, h2, a1, true_and, false_and, and_false, if_false] at hok ⊢
      repeat' split
      all_goals first | rfl | (exfalso; omega) | simp_all
  · simp only [decodeN, h1, false_and, and_false, if_false] at hok ⊢
    by_cases h0 : b0 < 128
    · simp [h0]
    · have : ¬ 2 < n := by omega
      have : ¬ 3 < n := by omega
      simp_all
theorem decode_app (s t : List UInt8) (hne : s ≠ []) (hok : okR (decodeL s) = true) : decodeL (s ++ t) = decodeL s := by
  have hl : 0 < s.length := List.length_pos_iff.2 hne
  rw [decodeL_N, decodeL_N s]
  rw [decodeL_N] at hok
  have h0 : (s ++ t).getD 0 0 = s.getD 0 0 := getD_app s t 0 hl
  rw [h0]
  refine decodeN_more _ _ _ _ _ _ _ _ _ (by omega) (by simp) (fun h => by rw [getD_app s t 1 h]) (fun h => by rw [getD_app s t 2 h]) (fun h => by rw [getD_app s t 3 h]) ?_
  intro h
  rw [h] at hok
  simp [okR] at hok
theorem runes_app : ∀ (n : Nat) (s t : List UInt8), s.length ≤ n → (runes s).all okR = true → runes (s ++ t) = runes s ++ runes t
  | n, [], t, _, _ => by simp [runes_nil]
  | 0, c :: s, t, hn, _ => by simp at hn
  | n + 1, c :: s, t, hn, h => by
    have hne : c :: s ≠ [] := by simp
    have hw := decodeL_width (c :: s)
    have hle := decodeL_le (c :: s) hne
    rw [runes_step _ hne, List.all_cons, Bool.and_eq_true] at h
    rw [runes_step (c :: s ++ t) (by simp), decode_app _ t hne h.1, runes_step _ hne, List.drop_append_of_le_length hle,
      runes_app n ((c :: s).drop (decodeL (c :: s)).2) t (by rw [List.length_drop]; simp only [List.length_cons] at hn ⊢; omega) h.2]
    rfl

/-- a rune within right bytes is decoded alike where what stands behind it is cut off -/
theorem decodeN_less (n n' b0 b1 b2 b3 b1' b2' b3' : Nat) (e1 : 1 < n → b1' = b1) (e2 : 2 < n → b2' = b2) (e3 : 3 < n → b3' = b3)
    (hok : decodeN n' b0 b1' b2' b3' ≠ (65533, 1)) (hw : (decodeN n' b0 b1' b2' b3').2 ≤ n) : decodeN n b0 b1 b2 b3 = decodeN n' b0 b1' b2' b3' := by
  rcases decodeN_shape n' b0 b1' b2' b3' with ⟨c, e⟩ | ⟨c1, c2, c3, cv, e⟩ | ⟨c1, c2, c3, c4, cv, cs, e⟩ | ⟨c1, c2, c3, c4, c5, cv, cw, e⟩ | e
  · rw [e]; simp [decodeN, c]
  · rw [e] at hw ⊢
    dsimp only at hw
    obtain rfl := e1 (by omega)
    have a0 : ¬ b0 < 128 := by omega
    have a1 : 1 < n := by omega
    simp [decodeN, a0, a1, c1, c3, cv]
  · rw [e] at hw ⊢
    dsimp only at hw
    obtain rfl := e1 (by omega)
    obtain rfl := e2 (by omega)
    have a0 : ¬ b0 < 128 := by omega
    have a1 : 1 < n := by omega
    have a2 : 2 < n := by omega
    have a3 : ¬ b0 / 32 = 6 := by omega
    have a4 : (b0 % 16 * 4096 + b1' % 64 * 64 + b2' % 64 < 55296 ∨ (57344 ≤ b0 % 16 * 4096 + b1' % 64 * 64 + b2' % 64 ∧ b0 % 16 * 4096 + b1' % 64 * 64 + b2' % 64 ≤ 1114111)) := by omega
    simp only [decodeN]
    rw [if_neg a0, if_neg (by omega), if_pos ⟨c1, ⟨a1, c3⟩, a2, c4⟩, if_pos ⟨cv, a4⟩]
  · rw [e] at hw ⊢
    dsimp only at hw
    obtain rfl := e1 (by omega)
    obtain rfl := e2 (by omega)
    obtain rfl := e3 (by omega)
    have a0 : ¬ b0 < 128 := by omega
    have a1 : 1 < n := by omega
    have a2 : 2 < n := by omega
    have a3 : 3 < n := by omega
    simp only [decodeN]
    rw [if_neg a0, if_neg (by omega), if_neg (by omega), if_pos ⟨c1, ⟨a1, c3⟩, ⟨a2, c4⟩, a3, c5⟩, if_pos ⟨cv, by omega⟩]
  · exact absurd e hok
/-- .. and where it takes more bytes than are left, the first of those is none that begins a rune -/
theorem decodeN_cross (n n' b0 b1 b2 b3 : Nat) (hn : 1 ≤ n) (hn4 : n < (decodeN n' b0 b1 b2 b3).2) : (n = 1 → b1 / 64 = 2) ∧ (n = 2 → b2 / 64 = 2) ∧ (n = 3 → b3 / 64 = 2) ∧ n ≤ 3 := by
  rcases decodeN_shape n' b0 b1 b2 b3 with ⟨c, e⟩ | ⟨c1, c2, c3, cv, e⟩ | ⟨c1, c2, c3, c4, cv, cs, e⟩ | ⟨c1, c2, c3, c4, c5, cv, cw, e⟩ | e
  all_goals (rw [e] at hn4; dsimp only at hn4; omega)
theorem runes_cut : ∀ (n : Nat) (s t : List UInt8), s.length ≤ n → (runes (s ++ t)).all okR = true → (runes t).all okR = true → (runes s).all okR = true
  | n, [], t, _, _, _ => by simp [runes_nil]
  | 0, c :: s, t, hn, _, _ => by simp at hn
  | n + 1, c :: s, t, hn, h, ht => by
    have hne : c :: s ≠ [] := by simp
    have hl : 0 < (c :: s).length := by simp
    have h' := h
    rw [runes_step _ (show c :: s ++ t ≠ [] by simp), List.all_cons, Bool.and_eq_true] at h
    obtain ⟨h1, h2⟩ := h
    have hw := decodeL_width (c :: s ++ t)
    by_cases hk : (decodeL (c :: s ++ t)).2 ≤ (c :: s).length
    · have e : decodeL (c :: s) = decodeL (c :: s ++ t) := by
        rw [decodeL_N (c :: s ++ t)] at h1 hk ⊢
        rw [decodeL_N (c :: s)]
        rw [getD_app _ t 0 hl] at h1 hk ⊢
        refine decodeN_less _ _ _ _ _ _ _ _ _ (fun h => by rw [getD_app _ t 1 h]) (fun h => by rw [getD_app _ t 2 h]) (fun h => by rw [getD_app _ t 3 h]) ?_ hk
        intro hb
        rw [hb] at h1
        simp [okR] at h1
      rw [runes_step _ hne, List.all_cons, e, h1, Bool.true_and]
      rw [List.drop_append_of_le_length hk] at h2
      exact runes_cut n _ t (by rw [List.length_drop]; simp only [List.length_cons] at hn ⊢; omega) h2 ht
    · exfalso
      have hk' : (c :: s).length < (decodeL (c :: s ++ t)).2 := by omega
      rw [decodeL_N] at hk'
      obtain ⟨x1, x2, x3, x4⟩ := decodeN_cross (c :: s).length _ _ _ _ _ hl hk'
      have hle := decodeL_le (c :: s ++ t) (by simp)
      have htn : t ≠ [] := by
        rintro rfl
        simp at hk hle
        omega
      have hx : (t.getD 0 0).toNat / 64 = 2 := by
        have g : ∀ i, i = (c :: s).length → (c :: s ++ t).getD i 0 = t.getD 0 0 := by
          intro i hi
          subst hi
          simp [List.getD, List.getElem?_append_right (Nat.le_refl _)]
        by_cases q1 : (c :: s).length = 1
        · rw [← g 1 q1.symm]; exact x1 q1
        · by_cases q2 : (c :: s).length = 2
          · rw [← g 2 q2.symm]; exact x2 q2
          · rw [← g 3 (by omega)]; exact x3 (by omega)
      rw [runes_step t htn, List.all_cons, decodeL_N, decodeN_bad _ _ _ _ _ (.inl ⟨by omega, by omega⟩)] at ht
      simp [okR] at ht
theorem all_weaken {α : Type} {f g : α → Bool} (l : List α) (h : ∀ x, f x = true → g x = true) (hf : l.all f = true) : l.all g = true := by
  rw [List.all_eq_true] at hf ⊢
  exact fun x hx => h x (hf x hx)
theorem ok_of_texts {l : List UInt8} (h : textsL l = true) : (runes l).all okR = true :=
  all_weaken _ (fun x hx => by rw [Bool.and_eq_true] at hx; exact hx.1) h
theorem texts_left (s t : List UInt8) (h : textsL s = true) : textsL (s ++ t) = textsL t := by
  have := runes_app s.length s t (Nat.le_refl _) (ok_of_texts h)
  unfold textsL at h ⊢
  rw [this, List.all_append, h, Bool.true_and]
theorem texts_right (s t : List UInt8) (h : textsL t = true) : textsL (s ++ t) = textsL s := by
  cases hs : textsL s with
  | true => rw [texts_left s t hs, h]
  | false =>
    cases hst : textsL (s ++ t) with
    | false => rfl
    | true =>
      have e := runes_app s.length s t (Nat.le_refl _) (runes_cut s.length s t (Nat.le_refl _) (ok_of_texts hst) (ok_of_texts h))
      unfold textsL at hst hs
      rw [e, List.all_append, hs] at hst
      simp at hst
theorem blank_app (s t : List UInt8) : blankL (s ++ t) = (blankL s && blankL t) := List.all_append
theorem decode_low (c : UInt8) (t : List UInt8) (h : c.toNat < 128) : decodeL (c :: t) = (c.toNat, 1) := decodeL_ascii c t h
theorem texts_of_blank : ∀ l : List UInt8, blankL l = true → textsL l = true
  | [], _ => rfl
  | c :: t, h => by
    simp only [blankL, List.all_cons, Bool.and_eq_true] at h
    have hc : c = 9 ∨ c = 10 ∨ c = 13 ∨ c = 32 := by simpa [blankC, or_assoc] using h.1
    have hl : c.toNat < 128 := by rcases hc with rfl | rfl | rfl | rfl <;> decide
    unfold textsL
    rw [runes_step _ (by simp), decode_low c t hl, List.all_cons]
    have := texts_of_blank t h.2
    unfold textsL at this
    simp only [List.drop_succ_cons, List.drop_zero, this, Bool.and_true]
    rcases hc with rfl | rfl | rfl | rfl <;> decide
theorem all_of_head {ps : List (Nat × Nat)} (h : headB ps = true) : (ps.all fun p => okR p && nameB p.1) = true := by
  cases ps with
  | nil => rfl
  | cons p ps =>
    simp only [headB, Bool.and_eq_true] at h
    rw [List.all_cons, h.1.1, name_of_start h.1.2, h.2]
    rfl
theorem texts_of_name {l : List UInt8} (h : nameL l = true) : textsL l = true := by
  simp only [nameL, Bool.and_eq_true] at h
  exact all_weaken _ (fun x hx => by rw [Bool.and_eq_true] at hx ⊢; exact ⟨hx.1, char_of_name hx.2⟩) (all_of_head h.2)
theorem head_app (ps qs : List (Nat × Nat)) (h : ps ≠ []) : headB (ps ++ qs) = (headB ps && qs.all fun p => okR p && nameB p.1) := by
  cases ps with
  | nil => exact absurd rfl h
  | cons p ps => simp only [List.cons_append, headB, List.all_append, Bool.and_assoc]
theorem name_ne {l : List UInt8} (h : nameL l = true) : l ≠ [] := by
  rintro rfl
  simp [nameL, runes_nil, headB] at h
theorem name_join (s t : List UInt8) (hs : nameL s = true) (ht : nameL t = true) (hl : s.length + t.length ≤ 100) : nameL (s ++ t) = true := by
  have e := runes_app s.length s t (Nat.le_refl _) (ok_of_texts (texts_of_name hs))
  have hne := name_ne hs
  simp only [nameL, Bool.and_eq_true] at hs ht ⊢
  refine ⟨by simpa using hl, ?_⟩
  have hr : runes s ≠ [] := by rw [runes_step _ hne]; simp
  rw [e, head_app _ _ hr, hs.2, all_of_head ht.2]
  rfl
theorem name_cut (s t : List UInt8) (hne : s ≠ []) (h : nameL (s ++ t) = true) (hs : textsL s = true) : nameL s = true := by
  have e := runes_app s.length s t (Nat.le_refl _) (ok_of_texts hs)
  have hr : runes s ≠ [] := by rw [runes_step _ hne]; simp
  simp only [nameL, Bool.and_eq_true] at h ⊢
  rw [e, head_app _ _ hr, Bool.and_eq_true] at h
  exact ⟨by have := h.1; simp at this ⊢; omega, h.2.1⟩

/-! ### the document's way to read a rune -/
def nextN (n b0 b1 b2 b3 : Nat) : Nat × Nat :=
  if b0 < 128 then (b0, 1)
  else if 194 ≤ b0 ∧ b0 ≤ 223 then
    if n < 2 ∨ b1 < 128 ∨ 191 < b1 then (0, 0) else (64 * (b0 - 192) + (b1 - 128), 2)
  else if 224 ≤ b0 ∧ b0 ≤ 239 then
    if n < 3 ∨ b1 < 128 ∨ 191 < b1 ∨ b2 < 128 ∨ 191 < b2 then (0, 0)
    else if 64 * (64 * (b0 - 224) + (b1 - 128)) + (b2 - 128) < 2048 ∨ (55296 ≤ 64 * (64 * (b0 - 224) + (b1 - 128)) + (b2 - 128) ∧ 64 * (64 * (b0 - 224) + (b1 - 128)) + (b2 - 128) ≤ 57343) then (0, 0)
    else (64 * (64 * (b0 - 224) + (b1 - 128)) + (b2 - 128), 3)
  else if 240 ≤ b0 ∧ b0 ≤ 244 then
    if n < 4 ∨ b1 < 128 ∨ 191 < b1 ∨ b2 < 128 ∨ 191 < b2 ∨ b3 < 128 ∨ 191 < b3 then (0, 0)
    else if 64 * (64 * (64 * (b0 - 240) + (b1 - 128)) + (b2 - 128)) + (b3 - 128) < 65536 ∨ 1114111 < 64 * (64 * (64 * (b0 - 240) + (b1 - 128)) + (b2 - 128)) + (b3 - 128) then (0, 0)
    else (64 * (64 * (64 * (b0 - 240) + (b1 - 128)) + (b2 - 128)) + (b3 - 128), 4)
  else (0, 0)
set_option maxRecDepth 100000 in
set_option maxHeartbeats 4000000 in
theorem nextN_eq (n b0 b1 b2 b3 : Nat) (h0 : b0 < 256) (h1 : b1 < 256) (h2 : b2 < 256) (h3 : b3 < 256) :
    nextN n b0 b1 b2 b3 = if okR (decodeN n b0 b1 b2 b3) = true then decodeN n b0 b1 b2 b3 else (0, 0) := by
  unfold nextN decodeN
  repeat' split
  all_goals first
    | (exfalso; omega)
    | (exfalso; simp_all [okR]; done)
    | (exfalso; simp_all [okR]; omega)
    | rfl
    | (apply Prod.ext <;> simp only <;> omega)
/-- the document's Next, at a place of the text -/
def nextL (l : List UInt8) : Nat × Nat := if okR (decodeL l) = true then decodeL l else (0, 0)
theorem nextL_N (l : List UInt8) : nextL l = nextN l.length (l.getD 0 0).toNat (l.getD 1 0).toNat (l.getD 2 0).toNat (l.getD 3 0).toNat := by
  rw [nextL, decodeL_N, nextN_eq _ _ _ _ _ (UInt8.toNat_lt _) (UInt8.toNat_lt _) (UInt8.toNat_lt _) (UInt8.toNat_lt _)]

/-! ### a text of one character -/
theorem decode_encode (r : Nat) (hr : r < 55296 ∨ (57343 < r ∧ r ≤ 1114111)) (t : List UInt8) : decodeL (encodeRune (r : Int) ++ t) = (r, (encodeRune (r : Int)).length) ∧ okR (decodeL (encodeRune (r : Int) ++ t)) = true := by
  have tb : ∀ k : Nat, k < 256 → (k.toUInt8).toNat = k := fun k hk => by simp [Nat.toUInt8, Nat.mod_eq_of_lt hk]
  by_cases a : r ≤ 127
  · have e : encodeRune (r : Int) = [r.toUInt8] := by
      unfold encodeRune; rw [encodeRuneZ_one (by omega) (by omega)]; simp
    rw [e]
    have : decodeL ([r.toUInt8] ++ t) = (r, 1) := by
      rw [List.singleton_append, decodeL_ascii _ _ (by rw [tb r (by omega)]; omega), tb r (by omega)]
    rw [this]
    refine ⟨rfl, ?_⟩
    simp only [okR]
    simp; omega
  · by_cases b : r ≤ 2047
    · have e : encodeRune (r : Int) = [(192 + r / 64).toUInt8, (128 + r % 64).toUInt8] := by
        unfold encodeRune; rw [encodeRuneZ_two (by omega) (by omega)]
        simp only [List.map_cons, List.map_nil]
        congr 2
      rw [e]
      have : decodeL ([(192 + r / 64).toUInt8, (128 + r % 64).toUInt8] ++ t) = (r, 2) := by
        rw [decodeL_N]
        simp only [List.cons_append, List.nil_append, List.getD_cons_zero, List.getD_cons_succ, List.length_cons]
        rw [tb _ (by omega), tb _ (by omega)]
        simp only [decodeN]
        rw [if_neg (by omega), if_pos (by omega), if_pos (by omega)]
        apply Prod.ext <;> simp only <;> omega
      rw [this]
      exact ⟨rfl, by simp [okR]⟩
    · by_cases c : r ≤ 65535
      · have e : encodeRune (r : Int) = [(224 + r / 4096).toUInt8, (128 + r / 64 % 64).toUInt8, (128 + r % 64).toUInt8] := by
          unfold encodeRune; rw [encodeRuneZ_three (by omega)]
          simp only [List.map_cons, List.map_nil]
          congr 2
        rw [e]
        have : decodeL ([(224 + r / 4096).toUInt8, (128 + r / 64 % 64).toUInt8, (128 + r % 64).toUInt8] ++ t) = (r, 3) := by
          rw [decodeL_N]
          simp only [List.cons_append, List.nil_append, List.getD_cons_zero, List.getD_cons_succ, List.length_cons]
          rw [tb _ (by omega), tb _ (by omega), tb _ (by omega)]
          simp only [decodeN]
          rw [if_neg (by omega), if_neg (by omega), if_pos (by omega), if_pos (by omega)]
          apply Prod.ext <;> simp only <;> omega
        rw [this]
        exact ⟨rfl, by simp [okR]⟩
      · have e : encodeRune (r : Int) = [(240 + r / 262144).toUInt8, (128 + r / 4096 % 64).toUInt8, (128 + r / 64 % 64).toUInt8, (128 + r % 64).toUInt8] := by
          unfold encodeRune; rw [encodeRuneZ_four (by omega) (by omega)]
          simp only [List.map_cons, List.map_nil]
          congr 2
        rw [e]
        have : decodeL ([(240 + r / 262144).toUInt8, (128 + r / 4096 % 64).toUInt8, (128 + r / 64 % 64).toUInt8, (128 + r % 64).toUInt8] ++ t) = (r, 4) := by
          rw [decodeL_N]
          simp only [List.cons_append, List.nil_append, List.getD_cons_zero, List.getD_cons_succ, List.length_cons]
          rw [tb _ (by omega), tb _ (by omega), tb _ (by omega), tb _ (by omega)]
          simp only [decodeN]
          rw [if_neg (by omega), if_neg (by omega), if_neg (by omega), if_pos (by omega), if_pos (by omega)]
          apply Prod.ext <;> simp only <;> omega
        rw [this]
        exact ⟨rfl, by simp [okR]⟩
theorem runes_encode (r : Nat) (hr : r < 55296 ∨ (57343 < r ∧ r ≤ 1114111)) (t : List UInt8) : runes (encodeRune (r : Int) ++ t) = (r, (encodeRune (r : Int)).length) :: runes t := by
  have hl := encodeRuneZ_length (r : Int)
  have hne : encodeRune (r : Int) ++ t ≠ [] := by
    intro h
    have := congrArg List.length h
    simp [encodeRune] at this
    rw [this.1] at hl
    simp at hl
  rw [runes_step _ hne, (decode_encode r hr t).1]
  simp

end Go.Proofs.YtlemdhfekdiaeaaGreatDoor.Pch
