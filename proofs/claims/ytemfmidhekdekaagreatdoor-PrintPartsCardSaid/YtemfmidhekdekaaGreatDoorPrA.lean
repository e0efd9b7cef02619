/- Joined texts: TreeGoP, PrintP, PrintQa, PrintQb, PrintQc. -/
import Derived.Test.YtemfmidhekdekaaGreatDoorPsB
import Derived.Test.YtemfmidhekdekaaGreatDoorPsH
namespace Go.Proofs.YtemfmidhekdekaaGreatDoor.Ptr
open Go

/-- the first place from k on whose parent is ahead of i -/
def endF (l : List Nd) (i : Nat) : Nat → Nat → Nat
  | 0, k => k
  | f + 1, k => if k < l.length ∧ (i : Int) ≤ par l k then endF l i f (k + 1) else k
/-- the place behind a subtree -/
def endN (l : List Nd) (i : Nat) : Nat := endF l i l.length (i + 1)
theorem endF_spec (l : List Nd) (i : Nat) : ∀ f k, k ≤ l.length → l.length ≤ k + f → k ≤ endF l i f k ∧ endF l i f k ≤ l.length ∧ (∀ j : Nat, k ≤ j → j < endF l i f k → (i : Int) ≤ par l j) ∧ (endF l i f k < l.length → par l (endF l i f k) < i)
  | 0, k, h, h2 => ⟨Nat.le_refl _, h, fun j h3 h4 => by unfold endF at h4; omega, fun h3 => by unfold endF at h3; omega⟩
  | f + 1, k, h, h2 => by
    unfold endF
    split
    · rename_i h3
      obtain ⟨a, b, c, d⟩ := endF_spec l i f (k + 1) (by omega) (by omega)
      refine ⟨by omega, b, fun j hj hj2 => ?_, d⟩
      by_cases e : j = k
      · subst e; exact h3.2
      · exact c j (by omega) hj2
    · rename_i h3
      refine ⟨Nat.le_refl _, h, fun j hj hj2 => by omega, fun hk => ?_⟩
      have : ¬ (i : Int) ≤ par l k := fun e => h3 ⟨hk, e⟩
      omega
theorem endN_spec (l : List Nd) (i : Nat) (h : i < l.length) : i < endN l i ∧ endN l i ≤ l.length ∧ (∀ j : Nat, i < j → j < endN l i → (i : Int) ≤ par l j) ∧ (endN l i < l.length → par l (endN l i) < i) := by
  obtain ⟨a, b, c, d⟩ := endF_spec l i l.length (i + 1) (by omega) (by omega)
  exact ⟨a, b, fun j h1 h2 => c j h1 h2, d⟩
/-- is a place in the subtree of q? (the document's way) -/
def belC (l : List Nd) (q : Int) : Nat → Int → Bool
  | 0, _ => false
  | f + 1, p => if p < 0 then false else if p = q then true else belC l q f (par l p.toNat)
def belB (l : List Nd) (i : Nat) (q : Nat) : Bool := belC l q (i + 1) i
theorem belC_at {l : List Nd} {q : Int} (f : Nat) (p : Int) : belC l q (f + 1) p = if p < 0 then false else if p = q then true else belC l q f (par l p.toNat) := rfl
theorem belC_neg {l : List Nd} {q : Int} : ∀ (f : Nat) (p : Int), p < 0 → belC l q f p = false
  | 0, _, _ => rfl
  | f + 1, p, h => by rw [belC_at, if_pos h]
theorem belC_fuel {l : List Nd} {q : Int} {n : Nat} (h : Rng l n) : ∀ (f g : Nat) (p : Int), p < n → p < f → p < g → belC l q f p = belC l q g p
  | 0, g, p, _, hf, _ => by rw [belC_neg g p (by omega)]; rfl
  | f + 1, 0, p, _, _, hg => by rw [belC_neg (f + 1) p (by omega)]; rfl
  | f + 1, g + 1, p, h1, hf, hg => by
    rw [belC_at, belC_at]
    by_cases hp : p < 0
    · rw [if_pos hp, if_pos hp]
    · rw [if_neg hp, if_neg hp]
      by_cases e : p = q
      · rw [if_pos e, if_pos e]
      · rw [if_neg e, if_neg e]
        have := h p.toNat (by omega)
        exact belC_fuel h f g _ (by omega) (by omega) (by omega)
theorem belC_up {l : List Nd} {q : Nat} {n : Nat} (h : Rng l n) (ho : ∀ k, k < n → openB l k = true) : ∀ (f : Nat) (p : Int), p < n → belC l q f p = true → (q : Int) ≤ p ∧ ∀ k : Nat, q < k → (k : Int) ≤ p → (q : Int) ≤ par l k
  | 0, _, _, hc => by cases hc
  | f + 1, p, h1, hc => by
    rw [belC_at] at hc
    by_cases hp : p < 0
    · rw [if_pos hp] at hc; cases hc
    · rw [if_neg hp] at hc
      by_cases e : p = q
      · exact ⟨by omega, fun k h2 h3 => by omega⟩
      · rw [if_neg e] at hc
        have hr := h p.toNat (by omega)
        obtain ⟨a, b⟩ := belC_up h ho f (par l p.toNat) (by omega) hc
        refine ⟨by omega, fun k h2 h3 => ?_⟩
        by_cases h4 : (k : Int) ≤ par l p.toNat
        · exact b k h2 h4
        · by_cases h5 : (k : Int) = p
          · have : p.toNat = k := by omega
            rw [this] at a
            exact a
          · have := between h ho p.toNat p.toNat (by omega) (Nat.le_refl _) k (by omega) (by omega)
            omega
/-- a place is in a subtree just if it stands ahead of that one's end -/
theorem belB_iff {l : List Nd} (h : Rng l l.length) (ho : ∀ k, k < l.length → openB l k = true) (q : Nat) (hq : q < l.length) : ∀ j, j < l.length → (belB l j q = true ↔ q ≤ j ∧ j < endN l q) := by
  obtain ⟨s1, s2, s3, s4⟩ := endN_spec l q hq
  intro j hj
  constructor
  · intro hb
    obtain ⟨a, b⟩ := belC_up h ho _ _ (by omega) hb
    refine ⟨by omega, Classical.byContradiction fun hn => ?_⟩
    have h1 := s4 (by omega)
    have h2 := b (endN l q) s1 (by omega)
    omega
  · induction j using Nat.strongRecOn with
    | ind j ih =>
      rintro ⟨h1, h2⟩
      unfold belB
      rw [belC_at, if_neg (by omega)]
      by_cases e : j = q
      · rw [if_pos (by omega)]
      · rw [if_neg (by omega), Int.toNat_natCast]
        have hr := h j hj
        have h3 := s3 j (by omega) h2
        have h4 := ih (par l j).toNat (by omega) (by omega) ⟨by omega, by omega⟩
        unfold belB at h4
        rw [← h4, show (((par l j).toNat : Nat) : Int) = par l j by omega]
        exact belC_fuel h _ _ _ (by omega) (by omega) (by omega)
/-- the first place from k on that is not in a subtree -/
def endR (l : List Nd) (i : Nat) : Nat → Nat → Nat
  | 0, k => k
  | f + 1, k => if k < l.length ∧ belB l k i = true then endR l i f (k + 1) else k
theorem endR_eq {l : List Nd} (h : Rng l l.length) (ho : ∀ k, k < l.length → openB l k = true) (i : Nat) (hi : i < l.length) : ∀ f k, i < k → k ≤ endN l i → l.length ≤ k + f → endR l i f k = endN l i
  | 0, k, h1, h2, h3 => by
    have := (endN_spec l i hi).2.1
    unfold endR
    omega
  | f + 1, k, h1, h2, h3 => by
    have hs := (endN_spec l i hi).2.1
    unfold endR
    by_cases hk : k < endN l i
    · rw [if_pos ⟨by omega, (belB_iff h ho i hi k (by omega)).2 ⟨by omega, hk⟩⟩]
      exact endR_eq h ho i hi f (k + 1) (by omega) (by omega) (by omega)
    · by_cases hl : k < l.length
      · rw [if_neg (fun e => hk ((belB_iff h ho i hi k hl).1 e.2).2)]
        omega
      · rw [if_neg (fun e => hl e.1)]
        omega
/-- children, or attributes, from a place to another one -/
def kidsL (l : List Nd) (q : Nat) (at' : Bool) (a b : Nat) : List Nat := (List.range' a (b - a)).filter fun j => decide (par l j = q) && ((kin l j == 3) == at')
theorem kidsL_step (l : List Nd) (q : Nat) (at' : Bool) (a k : Nat) (h : a ≤ k) : kidsL l q at' a (k + 1) = kidsL l q at' a k ++ (if (decide (par l k = q) && ((kin l k == 3) == at')) = true then [k] else []) := by
  unfold kidsL
  rw [show k + 1 - a = (k - a) + 1 by omega, List.range'_concat, List.filter_append, show a + 1 * (k - a) = k by omega]
  congr 1
  cases h : (decide (par l k = q) && ((kin l k == 3) == at')) <;> simp [h]
theorem kidsL_le (l : List Nd) (q : Nat) (at' : Bool) (a k : Nat) : (kidsL l q at' a k).length ≤ k - a := by
  unfold kidsL
  refine Nat.le_trans (List.length_filter_le _ _) ?_
  rw [List.length_range']
  exact Nat.le_refl _
theorem kidsL_none (l : List Nd) (q : Nat) (at' : Bool) (a : Nat) : ∀ d, (∀ j, a ≤ j → j < a + d → par l j ≠ q) → kidsL l q at' a (a + d) = []
  | 0, _ => by unfold kidsL; simp
  | d + 1, h => by
    rw [← Nat.add_assoc, kidsL_step _ _ _ _ _ (by omega), kidsL_none l q at' a d (fun j h1 h2 => h j h1 (by omega)), decide_eq_false (h (a + d) (by omega) (by omega))]
    simp
theorem kidsL_split (l : List Nd) (q : Nat) (at' : Bool) (a b c : Nat) (h1 : a ≤ b) (h2 : b ≤ c) : kidsL l q at' a c = kidsL l q at' a b ++ kidsL l q at' b c := by
  unfold kidsL
  rw [show c - a = (b - a) + (c - b) by omega, ← List.range'_append_1, List.filter_append, show a + (b - a) = b by omega]
/-- the document looks through the whole row, the program through the subtree -/
theorem kidsL_eq {l : List Nd} (h : Rng l l.length) (ho : ∀ k, k < l.length → openB l k = true) (i : Nat) (hi : i < l.length) (at' : Bool) : kidsL l i at' 0 l.length = kidsL l i at' (i + 1) (endN l i) := by
  obtain ⟨s1, s2, s3, s4⟩ := endN_spec l i hi
  have e1 : kidsL l i at' 0 (i + 1) = [] := by
    have := kidsL_none l i at' 0 (i + 1) (fun j _ h2 => by have := h j (by omega); omega)
    rwa [Nat.zero_add] at this
  have e2 : kidsL l i at' (endN l i) l.length = [] := by
    have := kidsL_none l i at' (endN l i) (l.length - endN l i) (fun j h1 h2 e => by
      have hr := h j (by omega)
      have : belB l j i = true := by
        unfold belB
        rw [belC_at, if_neg (by omega), if_neg (by omega), Int.toNat_natCast, e]
        obtain ⟨f, hf⟩ : ∃ f, j = f + 1 := ⟨j - 1, by omega⟩
        rw [hf, belC_at, if_neg (by omega), if_pos rfl]
      have := ((belB_iff h ho i hi j (by omega)).1 this).2
      omega)
    rwa [show endN l i + (l.length - endN l i) = l.length by omega] at this
  rw [kidsL_split l i at' 0 (i + 1) l.length (by omega) (by omega), kidsL_split l i at' (i + 1) (endN l i) l.length (by omega) s2, e1, e2]
  simp
/-- ancestors, the nearest first -/
def upC (l : List Nd) : Nat → Int → List Nat
  | 0, _ => []
  | f + 1, p => if p < 0 then [] else p.toNat :: upC l f (par l p.toNat)
def upL (l : List Nd) (i : Nat) : List Nat := upC l i (par l i)
theorem upC_at (l : List Nd) (f : Nat) (p : Int) : upC l (f + 1) p = if p < 0 then [] else p.toNat :: upC l f (par l p.toNat) := rfl
theorem upC_fuel {l : List Nd} {n : Nat} (h : Rng l n) : ∀ (f g : Nat) (p : Int), -1 ≤ p → p < n → p < f → p < g → upC l f p = upC l g p
  | 0, 0, _, _, _, _, _ => rfl
  | 0, g + 1, p, h0, _, hf, _ => by rw [upC_at, if_pos (by omega)]; rfl
  | f + 1, 0, p, h0, _, _, hg => by rw [upC_at, if_pos (by omega)]; rfl
  | f + 1, g + 1, p, h0, h1, hf, hg => by
    rw [upC_at, upC_at]
    by_cases hp : p < 0
    · rw [if_pos hp, if_pos hp]
    · rw [if_neg hp, if_neg hp]
      have := h p.toNat (by omega)
      rw [upC_fuel h f g _ (by omega) (by omega) (by omega) (by omega)]
theorem upC_mem {l : List Nd} {n : Nat} (h : Rng l n) (q : Nat) : ∀ (f : Nat) (p : Int), -1 ≤ p → p < n → p < f → (q ∈ upC l f p ↔ belC l q (f + 1) p = true)
  | 0, p, h0, _, hf => by
    rw [belC_at, if_pos (by omega)]
    simp [upC]
  | f + 1, p, h0, h1, hf => by
    rw [upC_at, belC_at]
    by_cases hp : p < 0
    · rw [if_pos hp, if_pos hp]; simp
    · rw [if_neg hp, if_neg hp, List.mem_cons]
      have hr := h p.toNat (by omega)
      by_cases e : p = q
      · rw [if_pos e]
        simp only [iff_true]
        exact .inl (by omega)
      · rw [if_neg e, ← upC_mem h q f (par l p.toNat) (by omega) (by omega) (by omega)]
        constructor
        · rintro (e2 | h2)
          · omega
          · exact h2
        · exact .inr
/-- what is ahead of a node and no ancestor: told by the list of ancestors -/
theorem upL_mem {l : List Nd} (h : Rng l l.length) (i q : Nat) (hi : i < l.length) (hq : q < i) : (q ∈ upL l i ↔ belB l i q = true) := by
  have hr := h i hi
  unfold upL belB
  rw [belC_at, if_neg (by omega), if_neg (by omega), Int.toNat_natCast, upC_mem h q i (par l i) (by omega) (by omega) (by omega)]
  rw [belC_fuel h (i + 1) i (par l i) (by omega) (by omega) (by omega)]
end Go.Proofs.YtemfmidhekdekaaGreatDoor.Ptr
namespace Go.Proofs.YtemfmidhekdekaaGreatDoor.Ppr
open Go Go.Proofs.YtemfmidhekdekaaGreatDoor.Ptr

/-- how a text's character is written, if otherwise -/
def textC (c : UInt8) : List UInt8 := if c = 38 then [38, 97, 109, 112, 59] else if c = 60 then [38, 108, 116, 59] else if c = 62 then [38, 103, 116, 59] else if c = 13 then [38, 35, 49, 51, 59] else []
/-- how a value's is -/
def valueC (c : UInt8) : List UInt8 := if c = 34 then [38, 113, 117, 111, 116, 59] else if c = 9 then [38, 35, 57, 59] else if c = 10 then [38, 35, 49, 48, 59] else if c = 62 then [] else textC c
def putC (h : UInt8 → List UInt8) (c : UInt8) : List UInt8 := if h c = [] then [c] else h c
def putL (h : UInt8 → List UInt8) (s : List UInt8) : List UInt8 := s.flatMap (putC h)
def escL (s : List UInt8) : List UInt8 := putL textC s
def quoL (s : List UInt8) : List UInt8 := 34 :: (putL valueC s ++ [34])
theorem putL_snoc (h : UInt8 → List UInt8) (s : List UInt8) (c : UInt8) : putL h (s ++ [c]) = putL h s ++ putC h c := by simp [putL]
theorem textC_len (c : UInt8) : (textC c).length ≤ 6 := by
  unfold textC
  repeat' split
  all_goals simp
theorem valueC_len (c : UInt8) : (valueC c).length ≤ 6 := by
  unfold valueC textC
  repeat' split
  all_goals simp
theorem putC_len {h : UInt8 → List UInt8} (hh : ∀ c, (h c).length ≤ 6) (c : UInt8) : (putC h c).length ≤ 6 := by
  unfold putC
  split
  · simp
  · exact hh c
theorem putL_len {h : UInt8 → List UInt8} (hh : ∀ c, (h c).length ≤ 6) (s : List UInt8) : (putL h s).length ≤ 6 * s.length := by
  induction s with
  | nil => simp [putL]
  | cons c s ih =>
    have := putC_len hh c
    simp only [putL, List.flatMap_cons, List.length_append, List.length_cons] at ih ⊢
    omega
/-- the place behind a node's attributes -/
def runF (l : List Nd) (i : Nat) : Nat → Nat → Nat
  | 0, k => k
  | f + 1, k => if k < l.length ∧ kin l k = 3 ∧ par l k = i then runF l i f (k + 1) else k
def runN (l : List Nd) (i : Nat) : Nat := runF l i l.length (i + 1)
theorem runF_spec (l : List Nd) (i : Nat) : ∀ f k, k ≤ l.length → l.length ≤ k + f → k ≤ runF l i f k ∧ runF l i f k ≤ l.length ∧ (∀ j : Nat, k ≤ j → j < runF l i f k → kin l j = 3 ∧ par l j = i) ∧ (runF l i f k < l.length → ¬ (kin l (runF l i f k) = 3 ∧ par l (runF l i f k) = i))
  | 0, k, h, h2 => ⟨Nat.le_refl _, h, fun j h3 h4 => by unfold runF at h4; omega, fun h3 => by unfold runF at h3; omega⟩
  | f + 1, k, h, h2 => by
    unfold runF
    split
    · rename_i h3
      obtain ⟨a, b, c, d⟩ := runF_spec l i f (k + 1) (by omega) (by omega)
      refine ⟨by omega, b, fun j hj hj2 => ?_, d⟩
      by_cases e : j = k
      · subst e; exact h3.2
      · exact c j (by omega) hj2
    · rename_i h3
      exact ⟨Nat.le_refl _, h, fun j hj hj2 => by omega, fun hk e => h3 ⟨hk, e⟩⟩
theorem runN_spec (l : List Nd) (i : Nat) (h : i < l.length) : i < runN l i ∧ runN l i ≤ l.length ∧ (∀ j : Nat, i < j → j < runN l i → kin l j = 3 ∧ par l j = i) ∧ (runN l i < l.length → ¬ (kin l (runN l i) = 3 ∧ par l (runN l i) = i)) := by
  obtain ⟨a, b, c, d⟩ := runF_spec l i l.length (i + 1) (by omega) (by omega)
  exact ⟨a, b, fun j h1 h2 => c j h1 h2, d⟩
/-- the children that are no attributes -/
def childs (l : List Nd) (i : Nat) : List Nat := kidsL l i false 0 l.length
/-- what stands of a node in text -/
def prF (l : List Nd) : Nat → Nat → List UInt8
  | 0, _ => []
  | f + 1, i =>
    if kin l i = 3 then nam l i ++ 61 :: quoL (val l i)
    else if kin l i = 4 then escL (val l i)
    else if kin l i = 5 then [60, 33, 45, 45] ++ val l i ++ [45, 45, 62]
    else if kin l i = 6 then [60, 63] ++ nam l i ++ (if val l i = [] then [] else 32 :: val l i) ++ [63, 62]
    else if kin l i = 1 then (childs l i).flatMap (prF l f)
    else 60 :: nam l i ++ (List.range' (i + 1) (runN l i - (i + 1))).flatMap (fun j => 32 :: prF l f j) ++ (if childs l i = [] then [47, 62] else 62 :: ((childs l i).flatMap (prF l f) ++ ([60, 47] ++ nam l i ++ [62])))
def prN (l : List Nd) (i : Nat) : List UInt8 := prF l l.length i
theorem childs_mem {l : List Nd} (hr : Rng l l.length) {i j : Nat} (h : j ∈ childs l i) : i < j ∧ j < l.length := by
  unfold childs kidsL at h
  obtain ⟨h1, h2⟩ := List.mem_filter.1 h
  have h3 := List.mem_range'_1.1 h1
  simp only [Bool.and_eq_true, decide_eq_true_eq] at h2
  have := hr j (by omega)
  omega
theorem flatMap_congr' {α β : Type} {f g : α → List β} : ∀ {L : List α}, (∀ x ∈ L, f x = g x) → L.flatMap f = L.flatMap g
  | [], _ => rfl
  | x :: L, h => by
    rw [List.flatMap_cons, List.flatMap_cons, h x (List.mem_cons_self ..), flatMap_congr' (fun y hy => h y (List.mem_cons_of_mem _ hy))]
theorem prF_fuel {l : List Nd} (hr : Rng l l.length) : ∀ (f g i : Nat), i < l.length → l.length ≤ i + f → l.length ≤ i + g → prF l f i = prF l g i
  | 0, _, i, hi, hf, _ => by omega
  | f + 1, 0, i, hi, _, hg => by omega
  | f + 1, g + 1, i, hi, hf, hg => by
    have key : ∀ j, i < j → j < l.length → prF l f j = prF l g j := fun j h1 h2 => prF_fuel hr f g j h2 (by omega) (by omega)
    have k1 : (childs l i).flatMap (prF l f) = (childs l i).flatMap (prF l g) := flatMap_congr' fun j hj => key j (childs_mem hr hj).1 (childs_mem hr hj).2
    have k2 : (List.range' (i + 1) (runN l i - (i + 1))).flatMap (fun j => 32 :: prF l f j) = (List.range' (i + 1) (runN l i - (i + 1))).flatMap (fun j => 32 :: prF l g j) := flatMap_congr' fun j hj => by
      have := List.mem_range'_1.1 hj
      have := (runN_spec l i hi).2.1
      rw [key j (by omega) (by omega)]
    unfold prF
    rw [k1, k2]
/-- a node's text out of its children's -/
theorem prN_at {l : List Nd} (hr : Rng l l.length) {i : Nat} (hi : i < l.length) : prN l i =
    if kin l i = 3 then nam l i ++ 61 :: quoL (val l i)
    else if kin l i = 4 then escL (val l i)
    else if kin l i = 5 then [60, 33, 45, 45] ++ val l i ++ [45, 45, 62]
    else if kin l i = 6 then [60, 63] ++ nam l i ++ (if val l i = [] then [] else 32 :: val l i) ++ [63, 62]
    else if kin l i = 1 then (childs l i).flatMap (prN l)
    else 60 :: nam l i ++ (List.range' (i + 1) (runN l i - (i + 1))).flatMap (fun j => 32 :: prN l j) ++ (if childs l i = [] then [47, 62] else 62 :: ((childs l i).flatMap (prN l) ++ ([60, 47] ++ nam l i ++ [62]))) := by
  obtain ⟨n, hn⟩ : ∃ n, l.length = n + 1 := ⟨l.length - 1, by omega⟩
  have key : ∀ j, i < j → j < l.length → prF l n j = prN l j := fun j h1 h2 => prF_fuel hr n l.length j h2 (by omega) (by omega)
  have k1 : (childs l i).flatMap (prF l n) = (childs l i).flatMap (prN l) := flatMap_congr' fun j hj => key j (childs_mem hr hj).1 (childs_mem hr hj).2
  have k2 : (List.range' (i + 1) (runN l i - (i + 1))).flatMap (fun j => 32 :: prF l n j) = (List.range' (i + 1) (runN l i - (i + 1))).flatMap (fun j => 32 :: prN l j) := flatMap_congr' fun j hj => by
    have := List.mem_range'_1.1 hj
    have := (runN_spec l i hi).2.1
    rw [key j (by omega) (by omega)]
  have h : prN l i = prF l (n + 1) i := by unfold prN; rw [hn]
  rw [h, ← k1, ← k2]
  rfl
theorem allB_take {l : List Nd} {root : Bool} : ∀ {n m : Nat}, allB l root n = true → m ≤ n → allB l root m = true
  | 0, m, h, hm => by
    obtain rfl : m = 0 := by omega
    exact h
  | n + 1, m, h, hm => by
    by_cases e : m = n + 1
    · subst e; exact h
    · unfold allB at h
      rw [Bool.and_eq_true] at h
      exact allB_take h.1 (by omega)
section
variable {l : List Nd} {root : Bool} (hA : allB l root l.length = true)
include hA
theorem tree_rng : Rng l l.length := allB_rng hA
theorem tree_open : ∀ k, k < l.length → openB l k = true := fun k hk => good_open (allB_good hA k hk)
/-- a node that is no root and no element has nothing below it -/
theorem end_leaf {i : Nat} (hi : i < l.length) (h1 : kin l i ≠ 1) (h2 : kin l i ≠ 2) : endN l i = i + 1 := by
  have hr := tree_rng hA
  obtain ⟨s1, s2, s3, _⟩ := endN_spec l i hi
  apply Classical.byContradiction
  intro hne
  have h3 := s3 (i + 1) (by omega) (by omega)
  have h4 := hr (i + 1) (by omega)
  have h5 : par l (i + 1) = i := by omega
  have h6 := good_parent (fun j hj => hr j (by omega)) (allB_good hA (i + 1) (by omega))
  rw [h5] at h6
  simp only [Int.toNat_natCast] at h6
  omega
/-- an attribute's elder siblings are attributes; its parent is an element -/
theorem attr_run {i j : Nat} (hj : j < l.length) (h3 : kin l j = 3) (hp : par l j = i) : kin l i = 2 ∧ ∀ k, i < k → k < j → par l k = i ∧ kin l k = 3 := by
  have hg := allB_good hA j hj
  have hao : allB l root j = true := allB_take hA (by omega)
  unfold good at hg
  rw [Bool.and_eq_true] at hg
  obtain ⟨ho, hg⟩ := hg
  have hfit : fitsB l j = true := by
    split at hg
    · unfold headB at hg
      simp only [Bool.and_eq_true, decide_eq_true_eq] at hg
      omega
    · exact hg
  unfold fitsB at hfit
  rw [Bool.and_eq_true] at hfit
  have hk := hfit.2
  unfold fitsK at hk
  rw [if_neg (by omega), if_pos h3, Bool.and_eq_true, Bool.and_eq_true, Bool.and_eq_true] at hk
  obtain ⟨⟨⟨k1, _⟩, k3⟩, k4⟩ := hk
  have ha := attrs_eq hao ho (by omega) (nam l j)
  rw [k3, k4] at ha
  have hb := (attrsB_iff l _ _ _ _).1 ha
  rw [hp] at hb k1
  refine ⟨?_, fun k h1 h2 => ?_⟩
  · unfold elemB at k1
    simp at k1
    omega
  · have := hb k (by simp; omega) h2
    exact ⟨this.1, this.2.1⟩
/-- the document looks for children behind the node -/
theorem childs_from {i : Nat} (hi : i < l.length) : childs l i = kidsL l i false (i + 1) l.length := by
  have hr := tree_rng hA
  unfold childs
  have e := kidsL_none l i false 0 (i + 1) (fun j _ h => by have := hr j (by omega); omega)
  rw [Nat.zero_add] at e
  rw [kidsL_split l i false 0 (i + 1) l.length (by omega) (by omega), e, List.nil_append]
/-- behind the attributes stand children that are none -/
theorem behind_run {i j : Nat} (hi : i < l.length) (hj : j < l.length) (hr : runN l i ≤ j) (hp : par l j = i) : kin l j ≠ 3 := by
  intro h3
  obtain ⟨s1, s2, s3, s4⟩ := runN_spec l i hi
  by_cases e : runN l i = j
  · rw [e] at s4
    exact s4 hj ⟨h3, hp⟩
  · have := (attr_run hA hj h3 hp).2 (runN l i) s1 (by omega)
    exact s4 (by omega) ⟨this.2, this.1⟩
/-- .. and all of them -/
theorem childs_run {i : Nat} (hi : i < l.length) : childs l i = (List.range' (runN l i) (l.length - runN l i)).filter fun j => decide (par l j = i) := by
  obtain ⟨s1, s2, s3, s4⟩ := runN_spec l i hi
  have hr := tree_rng hA
  have e0 : kidsL l i false 0 (runN l i) = [] := by
    unfold kidsL
    refine List.filter_eq_nil_iff.2 fun j hj => ?_
    have hj := List.mem_range'_1.1 hj
    by_cases h : i < j
    · rw [(s3 j h (by omega)).1]; simp
    · have := hr j (by omega)
      rw [decide_eq_false (by omega)]; simp
  unfold childs
  rw [kidsL_split l i false 0 (runN l i) l.length (by omega) s2, e0, List.nil_append]
  unfold kidsL
  refine List.filter_congr fun j hj => ?_
  have hj := List.mem_range'_1.1 hj
  by_cases h : par l j = i
  · have h3 := behind_run hA hi (by omega) (by omega) h
    rw [decide_eq_true h]
    simp [h3]
  · rw [decide_eq_false h]; simp
/-- the children from a place on -/
def kidsFrom (l : List Nd) (i k : Nat) : List Nat := (List.range' k (l.length - k)).filter fun j => decide (par l j = i)
omit hA in
theorem kidsFrom_step (l : List Nd) (i k m : Nat) (h : k ≤ m) (hm : m ≤ l.length) (hn : ∀ j, k ≤ j → j < m → par l j ≠ i) : kidsFrom l i k = kidsFrom l i m := by
  unfold kidsFrom
  rw [show l.length - k = (m - k) + (l.length - m) by omega, ← List.range'_append_1, List.filter_append, List.filter_eq_nil_iff.2, List.nil_append, show k + (m - k) = m by omega]
  intro j hj
  have hj := List.mem_range'_1.1 hj
  rw [decide_eq_false (hn j (by omega) (by omega))]
  simp
/-- a child, and then those behind its subtree -/
theorem kidsFrom_at {i k : Nat} (hk : k < l.length) (hp : par l k = i) : kidsFrom l i k = k :: kidsFrom l i (endN l k) := by
  obtain ⟨s1, s2, s3, s4⟩ := endN_spec l k hk
  have hr := tree_rng hA
  have hki := hr k hk
  rw [← kidsFrom_step l i (k + 1) (endN l k) (by omega) s2 (fun j h1 h2 => by have := s3 j (by omega) h2; omega)]
  unfold kidsFrom
  rw [show l.length - k = (l.length - (k + 1)) + 1 by omega, List.range'_succ, List.filter_cons, if_pos (by simp [hp])]
/-- behind a child's subtree: the next child, or the end -/
theorem kids_next {i k : Nat} (hk : k < l.length) (hp : par l k = i) : endN l k = l.length ∨ par l (endN l k) ≤ i := by
  obtain ⟨s1, s2, s3, s4⟩ := endN_spec l k hk
  by_cases e : endN l k = l.length
  · exact .inl e
  · refine .inr ?_
    have h4 := s4 (by omega)
    have := between (tree_rng hA) (tree_open hA) l.length (endN l k) (by omega) (by omega) k h4 s1
    omega
/-- no child is left, and the subtree ends there -/
theorem kids_end {i k : Nat} (hi : i < l.length) (hik : i < k) (hkl : k ≤ l.length) (hb : ∀ j : Nat, i < j → j < k → (i : Int) ≤ par l j) (hn : k = l.length ∨ par l k < i) : kidsFrom l i k = [] ∧ endN l i = k := by
  obtain ⟨s1, s2, s3, s4⟩ := endN_spec l i hi
  have he : endN l i = k := by
    apply Classical.byContradiction
    intro hne
    by_cases h : endN l i < k
    · have h1 := s4 (by omega)
      have h2 := hb (endN l i) s1 h
      omega
    · rcases hn with hn | hn
      · omega
      · have := s3 k hik (by omega)
        omega
  refine ⟨?_, he⟩
  unfold kidsFrom
  refine List.filter_eq_nil_iff.2 fun j hj => ?_
  have hj := List.mem_range'_1.1 hj
  have hne : par l j ≠ i := by
    intro hp
    have hb : belB l j i = true := by
      unfold belB
      rw [belC_at, if_neg (by omega), if_neg (by omega), Int.toNat_natCast, hp]
      obtain ⟨f, hf⟩ : ∃ f, j = f + 1 := ⟨j - 1, by omega⟩
      rw [hf, belC_at, if_neg (by omega), if_pos rfl]
    have := ((belB_iff (tree_rng hA) (tree_open hA) i hi j (by omega)).1 hb).2
    omega
  rw [decide_eq_false hne]
  simp
/-- the program's walk over a node's children: at a place, behind those that are written -/
structure Kid (l : List Nd) (i k : Nat) (V : List Nat) : Prop where
  lo : i < k
  hi : k ≤ l.length
  below : ∀ j : Nat, i < j → j < k → (i : Int) ≤ par l j
  edge : k = l.length ∨ par l k ≤ i
  rest : childs l i = V ++ kidsFrom l i k
theorem kid_step {i k : Nat} {V : List Nat} (h : Kid l i k V) (hk : k < l.length) (hp : par l k = i) : Kid l i (endN l k) (V ++ [k]) := by
  obtain ⟨s1, s2, s3, s4⟩ := endN_spec l k hk
  refine ⟨by have := h.lo; omega, s2, fun j h1 h2 => ?_, kids_next hA hk hp, ?_⟩
  · by_cases e : j < k
    · exact h.below j h1 e
    · by_cases e2 : j = k
      · subst e2; omega
      · have := s3 j (by omega) h2
        have := h.lo
        omega
  · rw [h.rest, kidsFrom_at hA hk hp, List.append_assoc]
    rfl
theorem kid_stop {i k : Nat} {V : List Nat} (h : Kid l i k V) (hn : k = l.length ∨ par l k ≠ i) : childs l i = V ∧ endN l i = k := by
  have h1 := h.lo
  have h2 := h.hi
  obtain ⟨a, b⟩ := kids_end hA (i := i) (k := k) (by omega) h1 h2 h.below (by
    rcases hn with hn | hn
    · exact .inl hn
    · rcases h.edge with e | e
      · exact .inl e
      · exact .inr (by omega))
  exact ⟨by rw [h.rest, a, List.append_nil], b⟩
theorem kid_attrs {i : Nat} (hi : i < l.length) : Kid l i (runN l i) [] := by
  obtain ⟨s1, s2, s3, s4⟩ := runN_spec l i hi
  refine ⟨s1, s2, fun j h1 h2 => by rw [(s3 j h1 h2).2]; omega, ?_, childs_run hA hi⟩
  by_cases e : runN l i = l.length
  · exact .inl e
  · refine .inr ?_
    by_cases e1 : runN l i = i + 1
    · have := tree_rng hA (runN l i) (by omega)
      omega
    · have h3 := s3 (runN l i - 1) (by omega) (by omega)
      have he := end_leaf hA (i := runN l i - 1) (by omega) (by omega) (by omega)
      rcases kids_next hA (i := i) (k := runN l i - 1) (by omega) h3.2 with h | h
      · rw [he] at h; omega
      · rw [he, show runN l i - 1 + 1 = runN l i by omega] at h
        exact h
theorem kid_root {i : Nat} (hi : i < l.length) (h2 : kin l i ≠ 2) : Kid l i (i + 1) [] := by
  have hr := kid_attrs hA hi
  obtain ⟨s1, s2, s3, s4⟩ := runN_spec l i hi
  have e : runN l i = i + 1 := by
    apply Classical.byContradiction
    intro hne
    have h3 := s3 (i + 1) (by omega) (by omega)
    exact h2 (attr_run hA (by omega) h3.1 h3.2).1
  rw [e] at hr
  exact hr
theorem attr_text {i j : Nat} (h1 : i < j) (h2 : j < runN l i) (hi : i < l.length) : prN l j = nam l j ++ 61 :: quoL (val l j) := by
  obtain ⟨_, s2, s3, _⟩ := runN_spec l i hi
  rw [prN_at (tree_rng hA) (by omega), if_pos (s3 j h1 h2).1]
end
/-- how many bytes a stretch of nodes takes at most -/
def wtN (l : List Nd) (j : Nat) : Nat := 6 * (val l j).length + 2 * (nam l j).length + 8
def wt (l : List Nd) (a b : Nat) : Nat := ((List.range' a (b - a)).map (wtN l)).sum
theorem wt_split (l : List Nd) (a b c : Nat) (h1 : a ≤ b) (h2 : b ≤ c) : wt l a c = wt l a b + wt l b c := by
  unfold wt
  rw [show c - a = (b - a) + (c - b) by omega, ← List.range'_append_1, List.map_append, List.sum_append, show a + (b - a) = b by omega]
theorem wt_one (l : List Nd) (a : Nat) : wt l a (a + 1) = wtN l a := by
  unfold wt
  rw [show a + 1 - a = 1 by omega]
  simp
theorem wt_self (l : List Nd) (a : Nat) : wt l a a = 0 := by
  unfold wt
  simp
theorem escL_len (s : List UInt8) : (escL s).length ≤ 6 * s.length := putL_len textC_len s
theorem quoL_len (s : List UInt8) : (quoL s).length ≤ 6 * s.length + 2 := by
  have := putL_len valueC_len s
  unfold quoL
  simp only [List.length_cons, List.length_append, List.length_nil]
  omega
section
variable {l : List Nd} {root : Bool} (hA : allB l root l.length = true)
include hA
theorem attrs_len {i : Nat} (hi : i < l.length) : ∀ d, i + 1 + d ≤ runN l i → ((List.range' (i + 1) d).flatMap (fun j => 32 :: prN l j)).length ≤ wt l (i + 1) (i + 1 + d)
  | 0, _ => by simp
  | d + 1, h => by
    have ih := attrs_len hi d (by omega)
    rw [List.range'_concat, List.flatMap_append, List.length_append, ← Nat.add_assoc, wt_split l (i + 1) (i + 1 + d) (i + 1 + d + 1) (by omega) (by omega), wt_one]
    have ha := attr_text hA (i := i) (j := i + 1 + d) (by omega) (by omega) hi
    have hq := quoL_len (val l (i + 1 + d))
    rw [Nat.one_mul]
    simp only [List.flatMap_cons, List.flatMap_nil, List.append_nil, List.length_cons, ha, List.length_append]
    unfold wtN
    omega
theorem kids_len {i : Nat} (hi : i < l.length) (hp : ∀ k, i < k → k < l.length → (prN l k).length ≤ wt l k (endN l k)) : ∀ (m k : Nat) (V : List Nat), Kid l i k V → l.length - k ≤ m → ((kidsFrom l i k).flatMap (prN l)).length ≤ wt l k (endN l i) := by
  intro m
  induction m with
  | zero =>
    intro k V h hm
    have h2 := h.hi
    have := kid_stop hA h (.inl (by omega))
    have h3 := h.rest
    rw [this.1] at h3
    have : kidsFrom l i k = [] := by simpa using h3
    rw [this]
    simp
  | succ m ih =>
    intro k V h hm
    by_cases hk : k < l.length ∧ par l k = i
    · obtain ⟨s1, s2, _, _⟩ := endN_spec l k hk.1
      have hs := kid_step hA h hk.1 hk.2
      have h1 := ih _ _ hs (by omega)
      have h2 := hp k h.lo hk.1
      have h3 : endN l k ≤ endN l i := by
        obtain ⟨a1, a2, a3, a4⟩ := endN_spec l i hi
        apply Classical.byContradiction
        intro hne
        have h4 := a4 (by omega)
        have h5 := hs.below (endN l i) a1 (by omega)
        omega
      rw [kidsFrom_at hA hk.1 hk.2, List.flatMap_cons, List.length_append, wt_split l k (endN l k) (endN l i) (by omega) h3]
      omega
    · have := kid_stop hA h (by
        by_cases e : k = l.length
        · exact .inl e
        · exact .inr fun e2 => hk ⟨by have := h.hi; omega, e2⟩)
      have h3 := h.rest
      rw [this.1] at h3
      have : kidsFrom l i k = [] := by simpa using h3
      rw [this]
      simp
theorem run_end {i : Nat} (hi : i < l.length) : runN l i ≤ endN l i := by
  obtain ⟨a1, a2, a3, a4⟩ := endN_spec l i hi
  obtain ⟨s1, s2, s3, s4⟩ := runN_spec l i hi
  have _ := hA
  apply Classical.byContradiction
  intro hne
  have h4 := a4 (by omega)
  have h5 := (s3 (endN l i) a1 (by omega)).2
  omega
/-- a node's text is no longer than its subtree allows -/
theorem pr_len : ∀ (n i : Nat), l.length - i ≤ n → i < l.length → (prN l i).length ≤ wt l i (endN l i) := by
  intro n
  induction n with
  | zero => intro i h hi; omega
  | succ n ih =>
    intro i h hi
    have hr := tree_rng hA
    have hp : ∀ k, i < k → k < l.length → (prN l k).length ≤ wt l k (endN l k) := fun k h1 h2 => ih k (by omega) h2
    obtain ⟨a1, a2, a3, a4⟩ := endN_spec l i hi
    obtain ⟨s1, s2, _, _⟩ := runN_spec l i hi
    have h1 : wt l i (endN l i) = wtN l i + wt l (i + 1) (endN l i) := by rw [wt_split l i (i + 1) (endN l i) (by omega) (by omega), wt_one]
    rw [h1, prN_at hr hi]
    have hq := quoL_len (val l i)
    have he := escL_len (val l i)
    split
    · simp only [List.length_append, List.length_cons]; unfold wtN; omega
    · split
      · unfold wtN; omega
      · split
        · simp only [List.length_append, List.length_cons, List.length_nil]; unfold wtN; omega
        · split
          · have : (if val l i = [] then [] else 32 :: val l i).length ≤ (val l i).length + 1 := by split <;> simp
            simp only [List.length_append, List.length_cons, List.length_nil]
            unfold wtN
            omega
          · split
            · rename_i h5
              have hk := kid_root hA hi (by omega)
              have h6 := kids_len hA hi hp l.length (i + 1) [] hk (by omega)
              rw [hk.rest, List.nil_append]
              omega
            · have hk := kid_attrs hA hi
              have h6 := kids_len hA hi hp l.length (runN l i) [] hk (by omega)
              have h7 := attrs_len hA hi (runN l i - (i + 1)) (by omega)
              rw [show i + 1 + (runN l i - (i + 1)) = runN l i by omega] at h7
              have h8 := wt_split l (i + 1) (runN l i) (endN l i) (by omega) (run_end hA hi)
              have hc : childs l i = kidsFrom l i (runN l i) := by rw [hk.rest, List.nil_append]
              rw [hc]
              have h9 : (if kidsFrom l i (runN l i) = [] then [47, 62] else 62 :: ((kidsFrom l i (runN l i)).flatMap (prN l) ++ ([60, 47] ++ nam l i ++ [62]))).length ≤ ((kidsFrom l i (runN l i)).flatMap (prN l)).length + (nam l i).length + 4 := by
                split
                · simp
                · simp only [List.length_append, List.length_cons, List.length_nil]; omega
              simp only [List.length_append, List.length_cons] at h9 ⊢
              unfold wtN
              omega
end
end Go.Proofs.YtemfmidhekdekaaGreatDoor.Ppr
namespace Go.Proofs.YtemfmidhekdekaaGreatDoor.Ppa
open Go Go.Lib Go.Proofs.YtemfmidhekdekaaGreatDoor.Ptr Go.Proofs.YtemfmidhekdekaaGreatDoor.Wps

/-! ### more fuel -/
theorem attrsF_more {N q : Nat} : ∀ (f : Nat) (r : Bs) (s : St) (o : Except Bs (Bs × St)), attrsF N q f r s = some o → attrsF N q (f + 1) r s = some o
  | 0, r, s, o, h => by cases h
  | f + 1, [], s, o, h => by rw [attrsF] at h ⊢; exact h
  | f + 1, x :: t, s, o, h => by
    by_cases hb : blankH (x :: t) = true
    · by_cases h47 : (blanksL (x :: t)).head? = some 47
      · obtain ⟨u, hu⟩ := head_cons h47
        rw [attrs_end hb hu (.inl rfl)] at h ⊢
        exact h
      · by_cases h62 : (blanksL (x :: t)).head? = some 62
        · obtain ⟨u, hu⟩ := head_cons h62
          rw [attrs_end hb hu (.inr rfl)] at h ⊢
          exact h
        · rw [attrs_more hb h47 h62] at h ⊢
          cases ha : attrM N q (blanksL (x :: t)) s with
          | error r2 => rw [ha] at h; exact h
          | ok q2 =>
            obtain ⟨r2, s2⟩ := q2
            rw [ha] at h
            exact attrsF_more f r2 s2 o h
    · have hb : blankH (x :: t) = false := by simpa using hb
      rw [attrs_stop hb] at h ⊢
      exact h
structure Kf (N f : Nat) : Prop where
  cont : ∀ (p : Int) (d run : Nat) (r : Bs) (s : St) (o : Except Bs (Bs × St)), contF N f p d run r s = some o → contF N (f + 1) p d run r s = some o
  mark : ∀ (p : Int) (d : Nat) (r : Bs) (s : St) (o : Except Bs (Bs × St)), markF N f p d r s = some o → markF N (f + 1) p d r s = some o
  elem : ∀ (p : Int) (d : Nat) (r : Bs) (s : St) (o : Except Bs (Bs × St)), elemF N f p d r s = some o → elemF N (f + 1) p d r s = some o
theorem kf_cont {N f : Nat} (ih : Kf N f) (p : Int) (d run : Nat) (r : Bs) (s : St) (o : Except Bs (Bs × St)) (h : contF N (f + 1) p d run r s = some o) : contF N (f + 1 + 1) p d run r s = some o := by
  cases r with
  | nil =>
    by_cases hp : p < 0
    · rw [cont_end hp] at h ⊢; exact h
    · rw [cont_lack hp] at h ⊢; exact h
  | cons x t =>
    by_cases h62 : x = 62 ∧ 2 ≤ run
    · obtain ⟨rfl, h2⟩ := h62
      rw [cont_bad h2] at h ⊢
      exact h
    · by_cases h60 : x = 60
      · subst h60
        by_cases hc : 0 ≤ p ∧ t.head? = some 47
        · obtain ⟨u, rfl⟩ := head_cons hc.2
          rw [cont_close hc.1] at h ⊢
          exact h
        · rw [cont_mark hc] at h ⊢
          cases hm : markF N f p d t s with
          | none => rw [hm] at h; cases h
          | some q =>
            rw [hm] at h
            rw [ih.mark p d t s q hm]
            cases q with
            | error r1 => exact h
            | ok q2 => exact ih.cont p d 0 _ _ o h
      · by_cases h38 : x = 38
        · subst h38
          rw [cont_ref] at h ⊢
          cases hf : refM t with
          | error r1 => rw [hf] at h; exact h
          | ok q =>
            rw [hf] at h
            exact ih.cont p d 0 _ _ o h
        · by_cases h13 : x = 13
          · subst h13
            rw [cont_cr] at h ⊢
            exact ih.cont p d 0 _ _ o h
          · rw [cont_char h62 h60 h38 h13] at h ⊢
            exact ih.cont p d _ t _ o h
theorem kf_mark {N f : Nat} (ih : Kf N f) (p : Int) (d : Nat) (r : Bs) (s : St) (o : Except Bs (Bs × St)) (h : markF N (f + 1) p d r s = some o) : markF N (f + 1 + 1) p d r s = some o := by
  by_cases h63 : r.head? = some 63
  · obtain ⟨t, rfl⟩ := head_cons h63
    rw [mark_instr] at h ⊢
    exact h
  · by_cases h33 : r.head? = some 33
    · obtain ⟨t, rfl⟩ := head_cons h33
      by_cases h45 : t.head? = some 45
      · obtain ⟨u, rfl⟩ := head_cons h45
        rw [mark_comm] at h ⊢
        exact h
      · rw [mark_cdata h45] at h ⊢
        exact h
    · rw [mark_elem h63 h33] at h ⊢
      exact ih.elem p (d + 1) r s o h
theorem kf_elem {N f : Nat} (ih : Kf N f) (p : Int) (d : Nat) (r : Bs) (s : St) (o : Except Bs (Bs × St)) (h : elemF N (f + 1) p d r s = some o) : elemF N (f + 1 + 1) p d r s = some o := by
  rw [elem_tail] at h ⊢
  cases hn : nameM r with
  | error r1 => rw [hn] at h; exact h
  | ok q =>
    obtain ⟨nm, r1⟩ := q
    rw [hn] at h
    dsimp only at h ⊢
    generalize elemS N p d r nm s = S at h ⊢
    generalize S.nodes.length.pred = Q at h ⊢
    cases ha : attrsF N Q (f + 1) r1 S with
    | none => rw [ha] at h; cases h
    | some oA =>
      rw [ha] at h
      rw [attrsF_more _ _ _ _ ha]
      dsimp only at h ⊢
      cases oA with
      | error r2 => exact h
      | ok q2 =>
        obtain ⟨r2, s2⟩ := q2
        by_cases h47 : r2.head? = some 47
        · obtain ⟨t, rfl⟩ := head_cons h47
          rw [tail_slash] at h ⊢
          exact h
        · cases hm : mustL [62] r2 with
          | error r3 => rw [tail_no h47 hm] at h ⊢; exact h
          | ok r3 =>
            rw [tail_cont h47 hm] at h ⊢
            cases hco : contF N f (Q : Int) d 0 r3 s2 with
            | none => rw [hco] at h; cases h
            | some q4 =>
              rw [hco] at h
              rw [ih.cont _ _ _ _ _ _ hco]
              exact h
theorem kf_all (N : Nat) : ∀ f, Kf N f
  | 0 => ⟨fun p d run r s o h => (by unfold contF at h; cases h), fun p d r s o h => (by unfold markF at h; cases h), fun p d r s o h => (by unfold elemF at h; cases h)⟩
  | f + 1 => ⟨kf_cont (kf_all N f), kf_mark (kf_all N f), kf_elem (kf_all N f)⟩
section
variable {N f g : Nat} {p : Int} {d run : Nat} {r : Bs} {s : St} {o : Except Bs (Bs × St)}
theorem cont_up (h : contF N f p d run r s = some o) (hg : f ≤ g) : contF N g p d run r s = some o := by
  obtain ⟨k, rfl⟩ : ∃ k, g = f + k := ⟨g - f, by omega⟩
  clear hg
  induction k with
  | zero => exact h
  | succ k ih => exact (kf_all N (f + k)).cont _ _ _ _ _ _ ih
theorem mark_up (h : markF N f p d r s = some o) (hg : f ≤ g) : markF N g p d r s = some o := by
  obtain ⟨k, rfl⟩ : ∃ k, g = f + k := ⟨g - f, by omega⟩
  clear hg
  induction k with
  | zero => exact h
  | succ k ih => exact (kf_all N (f + k)).mark _ _ _ _ _ ih
theorem elem_up (h : elemF N f p d r s = some o) (hg : f ≤ g) : elemF N g p d r s = some o := by
  obtain ⟨k, rfl⟩ : ∃ k, g = f + k := ⟨g - f, by omega⟩
  clear hg
  induction k with
  | zero => exact h
  | succ k ih => exact (kf_all N (f + k)).elem _ _ _ _ _ ih
theorem attrs_up {q : Nat} (h : attrsF N q f r s = some o) (hg : f ≤ g) : attrsF N q g r s = some o := by
  obtain ⟨k, rfl⟩ : ∃ k, g = f + k := ⟨g - f, by omega⟩
  clear hg
  induction k with
  | zero => exact h
  | succ k ih => exact attrsF_more _ _ _ _ ih
end
/-! ### texts and values -/
/-- a content is read so, however many ] stand ahead -/
def CR (N : Nat) (p : Int) (d : Nat) (r : Bs) (s : St) (o : Except Bs (Bs × St)) : Prop := ∀ run, ∃ f, contF N f p d run r s = some o
theorem putL_cons (h : UInt8 → Bs) (c : UInt8) (v : Bs) : Ppr.putL h (c :: v) = Ppr.putC h c ++ Ppr.putL h v := rfl
theorem ref_amp (t : Bs) : refM (97 :: 109 :: 112 :: 59 :: t) = .ok (38, t) := rfl
theorem ref_lt (t : Bs) : refM (108 :: 116 :: 59 :: t) = .ok (60, t) := rfl
theorem ref_gt (t : Bs) : refM (103 :: 116 :: 59 :: t) = .ok (62, t) := rfl
theorem ref_quot (t : Bs) : refM (113 :: 117 :: 111 :: 116 :: 59 :: t) = .ok (34, t) := rfl
theorem ref_13 (t : Bs) : refM (35 :: 49 :: 51 :: 59 :: t) = .ok (13, t) := rfl
theorem ref_10 (t : Bs) : refM (35 :: 49 :: 48 :: 59 :: t) = .ok (10, t) := rfl
theorem ref_9 (t : Bs) : refM (35 :: 57 :: 59 :: t) = .ok (9, t) := rfl
theorem enc_low (n : Nat) (c : UInt8) (h : encodeRune (n : Int) = [c]) (u : Bs) (v : Bs) : u ++ encodeRune (n : Int) ++ v = u ++ (c :: v) := by rw [h]; simp
theorem cr_esc {N : Nat} {p : Int} {d : Nat} {r : Bs} {o : Except Bs (Bs × St)} : ∀ (v : Bs) (s : St), CR N p d r { s with text := s.text ++ v } o → CR N p d (Ppr.escL v ++ r) s o
  | [], s, h => by
    have e : ({ s with text := s.text ++ [] } : St) = s := by rw [List.append_nil]
    rw [e] at h
    exact h
  | c :: v, s, h => by
    intro run
    have step : ∀ (n : Nat) (u : Bs), encodeRune (n : Int) = [c] → (∀ t, refM (u ++ t) = .ok (n, t)) → ∃ f, contF N f p d run (38 :: (u ++ (Ppr.escL v ++ r))) s = some o := by
      intro n u h1 h2
      have ih := cr_esc v { s with text := s.text ++ [c] } (by
        show CR N p d r { s with text := s.text ++ [c] ++ v } o
        rw [List.append_assoc]
        exact h) 0
      obtain ⟨f, hf⟩ := ih
      refine ⟨f + 1, ?_⟩
      rw [cont_ref, h2]
      dsimp only
      rw [h1]
      exact hf
    show ∃ f, contF N f p d run (Ppr.putC Ppr.textC c ++ Ppr.putL Ppr.textC v ++ r) s = some o
    rw [List.append_assoc]
    by_cases h38 : c = 38
    · subst h38
      exact step 38 [97, 109, 112, 59] (by decide) (fun t => ref_amp t)
    · by_cases h60 : c = 60
      · subst h60
        exact step 60 [108, 116, 59] (by decide) (fun t => ref_lt t)
      · by_cases h62 : c = 62
        · subst h62
          exact step 62 [103, 116, 59] (by decide) (fun t => ref_gt t)
        · by_cases h13 : c = 13
          · subst h13
            exact step 13 [35, 49, 51, 59] (by decide) (fun t => ref_13 t)
          · have e : Ppr.putC Ppr.textC c = [c] := by
              unfold Ppr.putC Ppr.textC
              simp [h38, h60, h62, h13]
            rw [e]
            obtain ⟨f, hf⟩ := cr_esc v { s with text := s.text ++ [c] } (by
              show CR N p d r { s with text := s.text ++ [c] ++ v } o
              rw [List.append_assoc]
              exact h) (if c = 93 then run + 1 else 0)
            refine ⟨f + 1, ?_⟩
            show contF N (f + 1) p d run (c :: (Ppr.escL v ++ r)) s = some o
            rw [cont_char (fun e => h62 e.1) h60 h38 h13]
            exact hf
theorem val_esc : ∀ (v acc r : Bs) (f : Nat), v.length < f → valF 34 f acc (Ppr.putL Ppr.valueC v ++ 34 :: r) = some (.ok (acc ++ v, r))
  | [], acc, r, f, h => by
    obtain ⟨g, rfl⟩ : ∃ g, f = g + 1 := ⟨f - 1, by simp at h; omega⟩
    show valF 34 (g + 1) acc (34 :: r) = _
    rw [valF, if_pos rfl, List.append_nil]
  | c :: v, acc, r, f, h => by
    obtain ⟨g, rfl⟩ : ∃ g, f = g + 1 := ⟨f - 1, by omega⟩
    have hv : v.length < g := by simpa using h
    have ih := val_esc v (acc ++ [c]) r g hv
    rw [List.append_assoc] at ih
    have step : ∀ (n : Nat) (u : Bs), encodeRune (n : Int) = [c] → (∀ t, refM (u ++ t) = .ok (n, t)) → valF 34 (g + 1) acc (38 :: (u ++ (Ppr.putL Ppr.valueC v ++ 34 :: r))) = some (.ok (acc ++ c :: v, r)) := by
      intro n u h1 h2
      rw [valF, if_neg (by decide), if_neg (by decide), if_pos rfl, h2]
      dsimp only
      rw [h1]
      exact ih
    rw [putL_cons, List.append_assoc]
    by_cases h34 : c = 34
    · subst h34; exact step 34 [113, 117, 111, 116, 59] (by decide) (fun t => ref_quot t)
    · by_cases h9 : c = 9
      · subst h9; exact step 9 [35, 57, 59] (by decide) (fun t => ref_9 t)
      · by_cases h10 : c = 10
        · subst h10; exact step 10 [35, 49, 48, 59] (by decide) (fun t => ref_10 t)
        · by_cases h38 : c = 38
          · subst h38; exact step 38 [97, 109, 112, 59] (by decide) (fun t => ref_amp t)
          · by_cases h60 : c = 60
            · subst h60; exact step 60 [108, 116, 59] (by decide) (fun t => ref_lt t)
            · by_cases h13 : c = 13
              · subst h13; exact step 13 [35, 49, 51, 59] (by decide) (fun t => ref_13 t)
              · have e : Ppr.putC Ppr.valueC c = [c] := by
                  unfold Ppr.putC Ppr.valueC Ppr.textC
                  by_cases h62 : c = 62
                  · simp [h62]
                  · simp [h34, h9, h10, h38, h60, h62, h13]
                rw [e]
                show valF 34 (g + 1) acc (c :: (Ppr.putL Ppr.valueC v ++ 34 :: r)) = _
                rw [valF, if_neg h34, if_neg h60, if_neg h38, if_neg h13]
                by_cases hb : Pch.blankC c = true
                · have h32 : c = 32 := by
                    unfold Pch.blankC at hb
                    simp only [Bool.or_eq_true, beq_iff_eq] at hb
                    rcases hb with ((hb | hb) | hb) | hb
                    · exact absurd hb h9
                    · exact absurd hb h10
                    · exact absurd hb h13
                    · exact hb
                  subst h32
                  rw [if_pos hb]
                  exact ih
                · rw [if_neg hb]
                  exact ih
theorem valM_esc (v r : Bs) : valM (Ppr.quoL v ++ r) = .ok (v, r) := by
  have e : Ppr.quoL v ++ r = 34 :: (Ppr.putL Ppr.valueC v ++ 34 :: r) := by unfold Ppr.quoL; simp
  rw [e, valM_eq, if_pos (.inl rfl)]
  have hl : v.length ≤ (Ppr.putL Ppr.valueC v).length := by
    induction v with
    | nil => simp
    | cons c v ih =>
      rw [putL_cons, List.length_append]
      have ih := ih (by unfold Ppr.quoL; simp)
      have h1 : 1 ≤ (Ppr.putC Ppr.valueC c).length := by
        unfold Ppr.putC
        split
        · simp
        · rename_i hc
          exact List.length_pos_iff.2 hc
      simp only [List.length_cons]
      omega
  rw [val_esc v [] r _ (by rw [List.length_append]; omega)]
  rfl
/-! ### names -/
theorem nameF_run {r : Bs} (hr : Pch.nameB (peek r) = false) : ∀ (n : Nat) (u : Bs) (k f : Nat), u.length ≤ n → ((Pch.runes u).all fun p => Pch.okR p && Pch.nameB p.1) = true → k + u.length ≤ 100 → u.length ≤ f → nameF f k (u ++ r) = .ok (k + u.length)
  | _, [], k, f, _, _, _, _ => by
    rw [List.nil_append, nameF_end f k r hr]
    rfl
  | 0, _ :: _, _, _, h, _, _, _ => by simp at h
  | n + 1, x :: t, k, f, h, ha, hk, hf => by
    have hne : (x :: t) ≠ [] := by simp
    rw [Pch.runes_step _ hne, List.all_cons, Bool.and_eq_true, Bool.and_eq_true] at ha
    obtain ⟨⟨h1, h2⟩, h3⟩ := ha
    have hd := Pch.decode_app (x :: t) r hne h1
    have hw := decodeL_width (x :: t)
    have hle := decodeL_le (x :: t) hne
    obtain ⟨g, rfl⟩ : ∃ g, f = g + 1 := ⟨f - 1, by simp at hf; omega⟩
    have hpk : peek (x :: t ++ r) = ((decodeL (x :: t)).1 : Int) := by rw [peek_of (by simp), hd]
    rw [nameF_step g k _ (by rw [hpk]; exact h2), hd, if_neg (by omega)]
    have hs : skip (x :: t ++ r) = (x :: t).drop (decodeL (x :: t)).2 ++ r := by
      unfold skip
      rw [hd, List.drop_append_of_le_length hle]
    rw [hs, nameF_run hr n _ _ g (by rw [List.length_drop]; omega) h3 (by rw [List.length_drop]; omega) (by rw [List.length_drop]; omega)]
    congr 1
    rw [List.length_drop]
    omega
theorem nameM_write {nm r : Bs} (h : Pch.nameL nm = true) (hr : Pch.nameB (peek r) = false) : nameM (nm ++ r) = .ok (nm, r) := by
  unfold Pch.nameL at h
  rw [Bool.and_eq_true, decide_eq_true_eq] at h
  have hall := Pch.all_of_head h.2
  have hne : nm ≠ [] := by
    intro e
    rw [e] at h
    exact absurd h.2 (by decide)
  have h2 := h.2
  rw [Pch.runes_step nm hne] at h2
  simp only [Pch.headB, Bool.and_eq_true] at h2
  have hs : Pch.startB (peek (nm ++ r)) = true := by
    rw [peek_of (by simp [hne]), Pch.decode_app nm r hne h2.1.1]
    exact h2.1.2
  rw [nameM_eq hs, nameF_run hr nm.length nm 0 _ (Nat.le_refl _) hall (by omega) (by rw [List.length_append]; omega)]
  show Except.ok ((nm ++ r).take (0 + nm.length), (nm ++ r).drop (0 + nm.length)) = _
  rw [Nat.zero_add, List.take_left', List.drop_left'] <;> rfl
theorem name_head {nm : Bs} (h : Pch.nameL nm = true) : ∃ c t, nm = c :: t ∧ Pch.blankC c = false ∧ c ≠ 47 ∧ c ≠ 62 ∧ c ≠ 63 ∧ c ≠ 33 ∧ c ≠ 45 := by
  unfold Pch.nameL at h
  rw [Bool.and_eq_true] at h
  cases nm with
  | nil => exact absurd h.2 (by decide)
  | cons c t =>
    have h2 := h.2
    rw [Pch.runes_step _ (by simp)] at h2
    simp only [Pch.headB, Bool.and_eq_true] at h2
    have hs := h2.1.2
    refine ⟨c, t, rfl, ?_⟩
    have low : ∀ b : UInt8, b.toNat < 128 → Pch.startB (b.toNat : Int) = false → c ≠ b := by
      intro b hb h1 e
      subst e
      rw [decodeL_ascii c t hb] at hs
      rw [h1] at hs
      cases hs
    refine ⟨?_, low 47 (by decide) (by decide), low 62 (by decide) (by decide), low 63 (by decide) (by decide), low 33 (by decide) (by decide), low 45 (by decide) (by decide)⟩
    cases hb : Pch.blankC c with
    | false => rfl
    | true =>
      exfalso
      unfold Pch.blankC at hb
      simp only [Bool.or_eq_true, beq_iff_eq] at hb
      rcases hb with ((hb | hb) | hb) | hb
      · exact low 9 (by decide) (by decide) hb
      · exact low 10 (by decide) (by decide) hb
      · exact low 13 (by decide) (by decide) hb
      · exact low 32 (by decide) (by decide) hb
theorem againF_write {r : Bs} : ∀ (f : Nat) (u : Bs), u.length ≤ f → Pch.textsL u = true → againF f u (u ++ r) = .ok r
  | 0, u, h, _ => by
    obtain rfl : u = [] := List.eq_nil_of_length_eq_zero (by omega)
    rfl
  | f + 1, u, h, ht => by
    by_cases hne : u = []
    · subst hne
      rw [againF, if_pos rfl]
      rfl
    · obtain ⟨a1, a2, a3⟩ := texts_step hne ht
      have hd := Pch.decode_app u r hne a1
      have hw := decodeL_width u
      have hle := decodeL_le u hne
      rw [againF, if_neg hne, if_pos (by rw [peek_of (by simp [hne]), peek_of hne, hd])]
      have hs : skip (u ++ r) = skip u ++ r := by
        unfold skip
        rw [hd, List.drop_append_of_le_length hle]
      rw [hs]
      exact againF_write f (skip u) (by unfold skip; rw [List.length_drop]; omega) a3
theorem againL_write {nm r : Bs} (h : Pch.nameL nm = true) : againL nm (nm ++ r) = .ok r := againF_write nm.length nm (Nat.le_refl _) (Pch.texts_of_name h)
theorem name_stop (c : UInt8) (t : Bs) (hc : c.toNat < 128) (h : Pch.nameB (c.toNat : Int) = false) : Pch.nameB (peek (c :: t)) = false := by
  rw [peek_low c t hc]
  exact h
theorem mustL_write : ∀ (a t : Bs), mustL a (a ++ t) = .ok t
  | [], t => rfl
  | c :: a, t => by rw [List.cons_append, mustL_eq]; exact mustL_write a t
theorem blanks_none {r : Bs} (h : blankH r = false) : blanksL r = r := blanksL_of_false h
theorem blanks_one {r : Bs} (h : blankH r = false) : blanksL (32 :: r) = r := by
  rw [blanksL_of_true (y := 32) (t := r) rfl, blanksL_of_false h]
theorem name_blank {nm r : Bs} (h : Pch.nameL nm = true) : blankH (nm ++ r) = false := by
  obtain ⟨c, t, rfl, hb, _⟩ := name_head h
  exact hb
/-! ### attributes, comments, instructions -/
theorem attr_write {N q : Nat} {nm v r : Bs} {s : St} (h : Pch.nameL nm = true) (hd : ((s.nodes.drop (q + 1)).any fun o => o.2.1 == nm) = false) :
    attrM N q (nm ++ 61 :: Ppr.quoL v ++ r) s = .ok (r, { s with nodes := s.nodes ++ [(3, nm, v, (q : Int))] }) := by
  have e : nm ++ 61 :: Ppr.quoL v ++ r = nm ++ 61 :: (Ppr.quoL v ++ r) := by simp
  rw [e]
  unfold attrM
  rw [nameM_write h (name_stop 61 _ (by decide) (by decide))]
  dsimp only
  rw [blanks_none (r := 61 :: (Ppr.quoL v ++ r)) rfl, mustL_eq]
  dsimp only [mustL]
  have hq : blanksL (Ppr.quoL v ++ r) = Ppr.quoL v ++ r := blanks_none rfl
  rw [hq, valM_esc]
  dsimp only
  rw [if_neg (fun e => by rw [hd] at e; cases e.2)]
  rfl
theorem untilM_write (a b : UInt8) : ∀ (v t : Bs), has2 a b (v ++ [a]) = false → untilM [a, b] (v ++ a :: b :: t) = some (v, t)
  | [], t, _ => by
    show untilM [a, b] (a :: b :: t) = _
    unfold untilM
    rw [if_pos (by unfold hasPrefix; simp)]
    rfl
  | x :: v, t, h => by
    rw [List.cons_append, has2_cons, Bool.or_eq_false_iff] at h
    rw [List.cons_append]
    unfold untilM
    have hp : ¬ hasPrefix (x :: (v ++ a :: b :: t)) [a, b] = true := by
      intro hp0
      have hp1 : (a == x && [b].isPrefixOf (v ++ a :: b :: t)) = true := hp0
      rw [Bool.and_eq_true, beq_iff_eq] at hp1
      obtain ⟨rfl, hp2⟩ := hp1
      have h1 := h.1
      have hx : (v ++ [a]).head? = some b := by
        clear hp0 h h1
        cases v with
        | nil => have h9 : (b == a && true) = true := hp2; simp at h9; simp [h9]
        | cons y u => have h9 : (b == y && true) = true := hp2; simp at h9; simp [h9]
      rw [hx] at h1
      simp at h1
    rw [if_neg hp, untilM_write a b v t h.2]
    rfl
theorem comm_write {p : Int} {v r : Bs} {s : St} (h : has2 45 45 v = false) (hl : v.getLast? ≠ some 45) : commM p (45 :: (v ++ 45 :: 45 :: 62 :: r)) s = .ok (r, add s (5, [], said v, p)) := by
  have hv : has2 45 45 (v ++ [45]) = false := by
    have key : ∀ u : Bs, has2 45 45 u = false → u.getLast? ≠ some 45 → has2 45 45 (u ++ [45]) = false := by
      intro u
      induction u with
      | nil => intro _ _; rfl
      | cons x t ih =>
        intro h1 h2
        rw [has2_cons, Bool.or_eq_false_iff] at h1
        cases t with
        | nil =>
          have : x ≠ 45 := fun e => h2 (by rw [e]; rfl)
          show has2 45 45 (x :: [45]) = false
          rw [has2_cons]
          have e1 : (x == 45) = false := by simpa using this
          rw [e1]
          rfl
        | cons y u =>
          rw [List.getLast?_cons_cons] at h2
          rw [List.cons_append, has2_cons, ih h1.2 h2, Bool.or_false]
          exact h1.1
    exact key v h hl
  unfold commM
  rw [mustL_eq]
  dsimp only [mustL]
  unfold untilR
  rw [untilM_write 45 45 v (62 :: r) hv]
  dsimp only
  rw [mustL_eq]
  rfl
theorem instr_write {p : Int} {nm v r : Bs} {s : St} (h : Pch.nameL nm = true) (hx : isXml nm = false) (h2 : has2 63 62 v = false) (hb : noBlank v = true) : instrM p (nm ++ (if v = [] then [] else 32 :: v) ++ [63, 62] ++ r) s = .ok (r, add s (6, nm, said v, p)) := by
  by_cases hv : v = []
  · subst hv
    rw [if_pos rfl, List.append_nil, List.append_assoc]
    unfold instrM
    rw [nameM_write (r := [63, 62] ++ r) h (name_stop 63 _ (by decide) (by decide))]
    dsimp only
    rw [if_neg (by rw [hx]; simp)]
    rfl
  · rw [if_neg hv]
    have e : nm ++ 32 :: v ++ [63, 62] ++ r = nm ++ 32 :: (v ++ 63 :: 62 :: r) := by simp
    rw [e]
    have hk : has2 63 62 (v ++ [63]) = false := by
      have key : ∀ u : Bs, has2 63 62 u = false → has2 63 62 (u ++ [63]) = false := by
        intro u
        induction u with
        | nil => intro _; rfl
        | cons x t ih =>
          intro h1
          rw [has2_cons, Bool.or_eq_false_iff] at h1
          rw [List.cons_append, has2_cons, ih h1.2, Bool.or_false]
          cases t with
          | nil => show (x == 63 && (some (63 : UInt8) == some 62)) = false; simp
          | cons y u => exact h1.1
      exact key v h2
    unfold instrM
    rw [nameM_write h (name_stop 32 _ (by decide) (by decide))]
    dsimp only
    rw [if_neg (by rw [hx]; simp), if_pos (by decide)]
    have hbl : blankH (v ++ 63 :: 62 :: r) = false := by
      cases v with
      | nil => exact absurd rfl hv
      | cons x u =>
        have : (!Pch.blankC x) = true := hb
        show Pch.blankC x = false
        simpa using this
    rw [blanks_one hbl]
    unfold untilR
    rw [untilM_write 63 62 v r hk]
end Go.Proofs.YtemfmidhekdekaaGreatDoor.Ppa
namespace Go.Proofs.YtemfmidhekdekaaGreatDoor.Ppa
open Go Go.Lib Go.Proofs.YtemfmidhekdekaaGreatDoor.Ptr Go.Proofs.YtemfmidhekdekaaGreatDoor.Wps Go.Proofs.YtemfmidhekdekaaGreatDoor.Ppr

/-- a value as it is read -/
def linV (k : Nat) (v : Bs) : Bs := if k = 5 ∨ k = 6 then said v else v
/-- a node as it is read, so many places ahead -/
def ndO (l : List Nd) (off : Int) (k : Nat) : Nd := (kin l k, nam l k, linV (kin l k) (val l k), par l k - off)
def seg (l : List Nd) (off : Int) (a b : Nat) : List Nd := (List.range' a (b - a)).map (ndO l off)
theorem seg_nil (l : List Nd) (off : Int) (a : Nat) : seg l off a a = [] := by unfold seg; rw [Nat.sub_self]; rfl
theorem seg_len (l : List Nd) (off : Int) (a b : Nat) : (seg l off a b).length = b - a := by unfold seg; simp
theorem seg_app (l : List Nd) (off : Int) {a b c : Nat} (h1 : a ≤ b) (h2 : b ≤ c) : seg l off a c = seg l off a b ++ seg l off b c := by
  unfold seg
  rw [← List.map_append, show c - a = (b - a) + (c - b) by omega, ← List.range'_append_1, show a + (b - a) = b by omega]
theorem seg_cons (l : List Nd) (off : Int) {a b : Nat} (h : a < b) : seg l off a b = ndO l off a :: seg l off (a + 1) b := by
  unfold seg
  rw [show b - a = (b - (a + 1)) + 1 by omega, List.range'_succ]
  rfl
theorem flush_eta (s : St) (p : Int) : (flush s p).text = [] := by
  unfold flush
  split
  · rename_i h; exact h
  · rfl
theorem flush_id {s : St} (h : s.text = []) (p : Int) : flush s p = s := by unfold flush; rw [if_pos h]
theorem st_ext {a b : St} (h1 : a.nodes = b.nodes) (h2 : a.text = b.text) (h3 : a.twice = b.twice) (h4 : a.deep = b.deep) : a = b := by
  cases a; cases b
  simp only at h1 h2 h3 h4
  subst h1 h2 h3 h4
  rfl
theorem add_st {s : St} {x : Nd} (h3 : x.1 ≠ 3) : add s x = ⟨(flush s x.2.2.2).nodes ++ [x], [], s.twice, s.deep⟩ := by
  obtain ⟨a, b, c, d⟩ := add_eq h3 s
  exact st_ext a (b.trans (flush_eta _ _)) c d
section
variable {l : List Nd} {root : Bool} (hA : allB l root l.length = true)
include hA
theorem fit_at {k : Nat} (hk : k < l.length) (h0 : root = false ∨ k ≠ 0) : fitsK l k = true := by
  have hg := allB_good hA k hk
  unfold good at hg
  rw [Bool.and_eq_true] at hg
  have hg := hg.2
  rw [if_neg (by
    intro e
    simp only [Bool.and_eq_true, beq_iff_eq] at e
    rcases h0 with h0 | h0
    · rw [h0] at e; cases e.1
    · exact h0 e.2)] at hg
  unfold fitsB at hg
  rw [Bool.and_eq_true] at hg
  exact hg.2
theorem fit_2 {k : Nat} (hk : k < l.length) (h : kin l k = 2) : Pch.nameL (nam l k) = true ∧ val l k = [] := by
  have h0 : root = false ∨ k ≠ 0 := by
    cases root with
    | false => exact .inl rfl
    | true =>
      refine .inr fun e => ?_
      subst e
      have hg := allB_good hA 0 hk
      unfold good headB at hg
      simp [h] at hg
  have hf := fit_at hA hk h0
  unfold fitsK at hf
  rw [if_pos h, Bool.and_eq_true, Bool.and_eq_true, decide_eq_true_eq] at hf
  exact ⟨hf.1.2, hf.2⟩
theorem par_pos {i k : Nat} (hk : k < l.length) (hp : par l k = i) : root = false ∨ k ≠ 0 := by
  refine .inr fun e => ?_
  have := tree_rng hA k hk
  omega
theorem kid_kinds {i k : Nat} (hi : i < l.length) (hk : k < l.length) (hp : par l k = i) (hr : Ppr.runN l i ≤ k) : (kin l k = 2 ∧ Pch.nameL (nam l k) = true ∧ val l k = []) ∨ (kin l k = 4 ∧ nam l k = [] ∧ val l k ≠ []) ∨ (kin l k = 5 ∧ nam l k = [] ∧ has2 45 45 (val l k) = false ∧ (val l k).getLast? ≠ some 45) ∨ (kin l k = 6 ∧ Pch.nameL (nam l k) = true ∧ isXml (nam l k) = false ∧ has2 63 62 (val l k) = false ∧ noBlank (val l k) = true) := by
  have hf := fit_at hA hk (par_pos hA hk hp)
  have h3 := behind_run hA hi hk hr hp
  unfold fitsK at hf
  by_cases h2 : kin l k = 2
  · exact .inl ⟨h2, fit_2 hA hk h2⟩
  · rw [if_neg h2, if_neg h3] at hf
    by_cases h4 : kin l k = 4
    · rw [if_pos h4] at hf
      simp only [Bool.and_eq_true, decide_eq_true_eq, Bool.not_eq_true', decide_eq_false_iff_not] at hf
      exact .inr (.inl ⟨h4, hf.1.1.2, hf.1.2⟩)
    · rw [if_neg h4] at hf
      by_cases h5 : kin l k = 5
      · rw [if_pos h5] at hf
        simp only [Bool.and_eq_true, decide_eq_true_eq, Bool.not_eq_true', decide_eq_false_iff_not] at hf
        exact .inr (.inr (.inl ⟨h5, hf.1.1.2, hf.1.2, hf.2⟩))
      · rw [if_neg h5] at hf
        by_cases h6 : kin l k = 6
        · rw [if_pos h6] at hf
          simp only [Bool.and_eq_true, Bool.not_eq_true'] at hf
          exact .inr (.inr (.inr ⟨h6, hf.1.1.1.2, hf.1.1.2, hf.1.2, hf.2⟩))
        · rw [if_neg h6] at hf
          cases hf
/-- behind a text stands none -/
theorem text_next {i k : Nat} (hk : k < l.length) (h4 : kin l k = 4) (hp : par l k = i) : k + 1 = l.length ∨ par l (k + 1) ≠ i ∨ kin l (k + 1) ≠ 4 := by
  by_cases e : k + 1 = l.length
  · exact .inl e
  · by_cases e2 : par l (k + 1) = i
    · refine .inr (.inr fun e3 => ?_)
      have hf := fit_at hA (k := k + 1) (by omega) (.inr (by omega))
      unfold fitsK at hf
      rw [if_neg (by omega), if_neg (by omega), if_pos e3, e2, lastC_step, if_pos ⟨hp, by omega⟩, Int.toNat_natCast, h4] at hf
      simp only [Bool.and_eq_true] at hf
      have h9 := hf.2
      rw [decide_eq_false (by omega)] at h9
      cases h9
    · exact .inr (.inl e2)
theorem end_le {i k : Nat} (hi : i < l.length) (hk : k < l.length) (hp : par l k = i) (hb : ∀ j : Nat, i < j → j < k → (i : Int) ≤ par l j) : k < endN l i ∧ endN l k ≤ endN l i := by
  obtain ⟨a1, a2, a3, a4⟩ := endN_spec l i hi
  obtain ⟨b1, b2, b3, b4⟩ := endN_spec l k hk
  have hr := tree_rng hA k hk
  have h1 : k < endN l i := by
    apply Classical.byContradiction
    intro hc
    rcases Nat.lt_or_ge (endN l i) k with e | e
    · have := a4 (by omega)
      have := hb (endN l i) a1 e
      omega
    · have e2 : endN l i = k := by omega
      have := a4 (by omega)
      rw [e2] at this
      omega
  refine ⟨h1, ?_⟩
  apply Classical.byContradiction
  intro hc
  have h2 := a4 (by omega)
  have h3 := b3 (endN l i) h1 (by omega)
  omega
/-- an element's text behind its < -/
def elT (l : List Nd) (i : Nat) : Bs := nam l i ++ (List.range' (i + 1) (Ppr.runN l i - (i + 1))).flatMap (fun j => 32 :: prN l j) ++ (if childs l i = [] then [47, 62] else 62 :: ((childs l i).flatMap (prN l) ++ ([60, 47] ++ nam l i ++ [62])))
theorem pr_elem {i : Nat} (hi : i < l.length) (h : kin l i = 2) : prN l i = 60 :: elT l i := by
  rw [prN_at (tree_rng hA) hi, if_neg (by omega), if_neg (by omega), if_neg (by omega), if_neg (by omega), if_neg (by omega)]
  unfold elT
  rw [List.cons_append, List.cons_append]
/-- the attributes -/
theorem attrs_rt {i N Q : Nat} {off : Int} {F : List Nd} {x : Nd} {r2 : Bs} (hi : i < l.length) (hQ : (Q : Int) = i - off) (hF : F.length = Q) (hr2 : blankH r2 = false) :
    ∀ (m a : Nat), i + 1 ≤ a → a ≤ Ppr.runN l i → Ppr.runN l i - a ≤ m → ∀ tw dp, ∃ f, attrsF N Q f ((List.range' a (Ppr.runN l i - a)).flatMap (fun j => 32 :: prN l j) ++ r2) ⟨F ++ [x] ++ seg l off (i + 1) a, [], tw, dp⟩ = some (.ok (r2, ⟨F ++ [x] ++ seg l off (i + 1) (Ppr.runN l i), [], tw, dp⟩))
  | m, a, h1, h2, h3, tw, dp => by
    by_cases e : a = Ppr.runN l i
    · subst e
      rw [Nat.sub_self]
      exact ⟨1, attrs_stop hr2⟩
    · obtain ⟨m, rfl⟩ : ∃ k, m = k + 1 := ⟨m - 1, by omega⟩
      obtain ⟨_, s2, s3, _⟩ := runN_spec l i hi
      obtain ⟨hk3, hp⟩ := s3 a (by omega) (by omega)
      have hf := fit_at hA (k := a) (by omega) (par_pos hA (by omega) hp)
      unfold fitsK at hf
      rw [if_neg (by omega), if_pos hk3] at hf
      simp only [Bool.and_eq_true] at hf
      have hnm := hf.1.1.2
      have hfr := hf.2
      rw [hp, Int.toNat_natCast] at hfr
      have hfree := (freeB_iff l (nam l a) (i + 1) a).1 hfr
      obtain ⟨f, ih⟩ := attrs_rt (N := N) hi hQ hF hr2 m (a + 1) (by omega) (by omega) (by omega) tw dp
      refine ⟨f + 1, ?_⟩
      have hcons : (List.range' a (Ppr.runN l i - a)).flatMap (fun j => 32 :: prN l j) ++ r2 = 32 :: (nam l a ++ 61 :: quoL (val l a) ++ ((List.range' (a + 1) (Ppr.runN l i - (a + 1))).flatMap (fun j => 32 :: prN l j) ++ r2)) := by
        rw [show Ppr.runN l i - a = (Ppr.runN l i - (a + 1)) + 1 by omega, List.range'_succ, List.flatMap_cons, attr_text hA (by omega) (by omega) hi]
        simp
      rw [hcons]
      have hb : blankH (nam l a ++ 61 :: quoL (val l a) ++ ((List.range' (a + 1) (Ppr.runN l i - (a + 1))).flatMap (fun j => 32 :: prN l j) ++ r2)) = false := by
        rw [List.append_assoc]
        exact name_blank hnm
      obtain ⟨c, t, hct, _, c47, c62, _⟩ := name_head hnm
      have hh : ∀ z : UInt8, z ≠ c → (blanksL (32 :: (nam l a ++ 61 :: quoL (val l a) ++ ((List.range' (a + 1) (Ppr.runN l i - (a + 1))).flatMap (fun j => 32 :: prN l j) ++ r2)))).head? ≠ some z := by
        intro z hz
        rw [blanks_one hb, hct]
        simpa using fun e => hz e.symm
      rw [attrs_more rfl (hh 47 (fun e => c47 e.symm)) (hh 62 (fun e => c62 e.symm)), blanks_one hb]
      have hdrop : ((⟨F ++ [x] ++ seg l off (i + 1) a, [], tw, dp⟩ : St).nodes.drop (Q + 1)) = seg l off (i + 1) a := by
        show (F ++ [x] ++ seg l off (i + 1) a).drop (Q + 1) = _
        rw [List.drop_append, List.drop_eq_nil_of_le (by simp; omega), List.nil_append]
        have : Q + 1 - (F ++ [x]).length = 0 := by simp; omega
        rw [this]
        rfl
      rw [attr_write hnm (by
        rw [hdrop, List.any_eq_false]
        intro y hy
        unfold seg at hy
        obtain ⟨j, hj, rfl⟩ := List.mem_map.1 hy
        have hj := List.mem_range'_1.1 hj
        rw [beq_iff_eq]
        exact hfree j (by omega) (by omega))]
      dsimp only
      have hst : (⟨F ++ [x] ++ seg l off (i + 1) a ++ [(3, nam l a, val l a, (Q : Int))], [], tw, dp⟩ : St) = ⟨F ++ [x] ++ seg l off (i + 1) (a + 1), [], tw, dp⟩ := by
        rw [seg_app l off (a := i + 1) (b := a) (c := a + 1) h1 (by omega), seg_cons l off (a := a) (b := a + 1) (by omega), seg_nil]
        have hn : ndO l off a = (3, nam l a, val l a, (Q : Int)) := by
          unfold ndO linV
          rw [hk3, hp, hQ]
          rfl
        rw [hn, List.append_assoc (F ++ [x])]
      rw [hst]
      exact ih
/-- what is claimed of an element -/
def ElR (l : List Nd) (i : Nat) : Prop := ∀ (N : Nat) (off p : Int) (d : Nat) (s : St) (r : Bs), ((flush s p).nodes.length : Int) = i - off → d ≤ depN l i →
  ∃ f, elemF N f p d (elT l i ++ r) s = some (.ok (r, ⟨(flush s p).nodes ++ (2, nam l i, [], p) :: seg l off (i + 1) (endN l i), [], s.twice, s.deep⟩))
/-- the children of an element, from one on -/
theorem kids_rt {i N d : Nat} {off q : Int} {r : Bs} {o : Except Bs (Bs × St)} (hi : i < l.length) (hq : q = i - off) (hd : d ≤ depN l i) (ihE : ∀ k, i < k → k < l.length → kin l k = 2 → ElR l k) :
    ∀ (m k : Nat) (V : List Nat) (s : St), Kid l i k V → Ppr.runN l i ≤ k → l.length - k ≤ m → ((flush s q).nodes.length : Int) = k - off → (s.text = [] ∨ k = l.length ∨ par l k ≠ i ∨ kin l k ≠ 4) →
      (∀ s2, flush s2 q = ⟨(flush s q).nodes ++ seg l off k (endN l i), [], s.twice, s.deep⟩ → CR N q d r s2 o) → CR N q d ((kidsFrom l i k).flatMap (prN l) ++ r) s o := by
  intro m
  induction m with
  | zero =>
    intro k V s hk hrk hm hlen _ hrest
    have hkl : k = l.length := by have := hk.hi; omega
    obtain ⟨_, he⟩ := kid_stop hA hk (.inl hkl)
    have hf := (kids_end hA hi hk.lo hk.hi hk.below (.inl hkl)).1
    rw [hf]
    refine hrest s (st_ext ?_ (flush_eta _ _) (flush_same s q).1 (flush_same s q).2)
    rw [he, seg_nil, List.append_nil]
  | succ m ih =>
    intro k V s hk hrk hm hlen htx hrest
    by_cases hstop : k = l.length ∨ par l k ≠ i
    · obtain ⟨_, he⟩ := kid_stop hA hk hstop
      have hf := (kids_end hA hi hk.lo hk.hi hk.below (by
        rcases hstop with e | e
        · exact .inl e
        · rcases hk.edge with e2 | e2
          · exact .inl e2
          · exact .inr (by omega))).1
      rw [hf]
      refine hrest s (st_ext ?_ (flush_eta _ _) (flush_same s q).1 (flush_same s q).2)
      rw [he, seg_nil, List.append_nil]
    · have hkl : k < l.length := by
        have := hk.hi
        rcases Nat.lt_or_ge k l.length with e | e
        · exact e
        · exact absurd (.inl (by omega)) hstop
      have hp : par l k = i := Classical.byContradiction fun e => hstop (.inr e)
      have hlo := hk.lo
      obtain ⟨hke, hee⟩ := end_le hA hi hkl hp hk.below
      have hend := endN_spec l k hkl
      have hnext := kid_step hA hk hkl hp
      rw [kidsFrom_at hA hkl hp, List.flatMap_cons, List.append_assoc]
      have hseg := seg_app l off (a := k) (b := endN l k) (c := endN l i) (by omega) hee
      -- behind a part that is whole
      have go : ∀ (s1 : St), s1.nodes = (flush s q).nodes ++ seg l off k (endN l k) → s1.text = [] → s1.twice = s.twice → s1.deep = s.deep → CR N q d ((kidsFrom l i (endN l k)).flatMap (prN l) ++ r) s1 o := by
        intro s1 h1 h2 h3 h4
        refine ih (endN l k) _ s1 hnext (by omega) (by omega) ?_ (.inl h2) fun s2 hs2 => hrest s2 ?_
        · rw [flush_id h2, h1, List.length_append, seg_len]
          omega
        · rw [hs2, flush_id h2, h1, h3, h4, hseg, List.append_assoc]
      have mk : ∀ (u : Bs) (g : Nat) (s1 : St) (run : Nat), ¬ (0 ≤ q ∧ (u ++ ((kidsFrom l i (endN l k)).flatMap (prN l) ++ r)).head? = some 47) → markF N g q d (u ++ ((kidsFrom l i (endN l k)).flatMap (prN l) ++ r)) s = some (.ok ((kidsFrom l i (endN l k)).flatMap (prN l) ++ r, s1)) → s1.nodes = (flush s q).nodes ++ seg l off k (endN l k) → s1.text = [] → s1.twice = s.twice → s1.deep = s.deep → ∃ f, contF N f q d run (60 :: (u ++ ((kidsFrom l i (endN l k)).flatMap (prN l) ++ r))) s = some o := by
        intro u g s1 run h0 hm h1 h2 h3 h4
        obtain ⟨f, hf⟩ := go s1 h1 h2 h3 h4 0
        refine ⟨max g f + 1, ?_⟩
        rw [cont_mark h0, mark_up hm (Nat.le_max_left _ _)]
        exact cont_up hf (Nat.le_max_right _ _)
      rcases kid_kinds hA hi hkl hp hrk with ⟨k2, hnm, hv⟩ | ⟨k4, hnm, hv⟩ | ⟨k5, hnm, hv1, hv2⟩ | ⟨k6, hnm, hx, hv1, hv2⟩
      · intro run
        have hdk : d + 1 ≤ depN l k := by
          rw [depN_step (tree_rng hA) k hkl, if_pos k2, if_neg (by omega), hp, Int.toNat_natCast]
          omega
        obtain ⟨f, hf⟩ := ihE k hlo hkl k2 N off q (d + 1) s ((kidsFrom l i (endN l k)).flatMap (prN l) ++ r) hlen hdk
        rw [pr_elem hA hkl k2, List.cons_append]
        obtain ⟨c, t, hct, _, c47, _, c63, c33, _⟩ := name_head hnm
        have hhd : ∀ z : UInt8, z ≠ c → (elT l k ++ ((kidsFrom l i (endN l k)).flatMap (prN l) ++ r)).head? ≠ some z := by
          intro z hz
          unfold elT
          rw [hct]
          simpa using fun e => hz e.symm
        refine mk (elT l k) (f + 1) ⟨(flush s q).nodes ++ (2, nam l k, [], q) :: seg l off (k + 1) (endN l k), [], s.twice, s.deep⟩ run (fun e => hhd 47 (fun e => c47 e.symm) e.2) (by
          rw [mark_elem (hhd 63 (fun e => c63 e.symm)) (hhd 33 (fun e => c33 e.symm))]
          exact hf) ?_ rfl rfl rfl
        show (flush s q).nodes ++ _ = _
        rw [seg_cons l off (a := k) (b := endN l k) hend.1]
        have hn : ndO l off k = (2, nam l k, [], q) := by
          unfold ndO linV
          rw [k2, hp, hv, hq]
          rfl
        rw [hn]
      · have hlf := end_leaf hA hkl (by omega) (by omega)
        have hst : s.text = [] := by
          rcases htx with e | e | e | e
          · exact e
          · omega
          · exact absurd hp e
          · exact absurd k4 e
        have hpr : prN l k = escL (val l k) := by
          rw [prN_at (tree_rng hA) hkl, if_neg (by omega), if_pos k4]
        rw [hpr]
        refine cr_esc _ _ ?_
        rw [hst, List.nil_append]
        have hfl : flush { s with text := val l k } q = ⟨s.nodes ++ [(4, [], val l k, q)], [], s.twice, s.deep⟩ := by
          unfold flush
          rw [if_neg hv]
        have hn : ndO l off k = (4, [], val l k, q) := by
          unfold ndO linV
          rw [k4, hp, hnm, hq]
          rfl
        rw [hlf] at hnext ⊢
        rw [flush_id hst] at hlen
        refine ih (k + 1) _ _ hnext (by omega) (by omega) ?_ ?_ fun s2 hs2 => hrest s2 ?_
        · rw [hfl]
          show ((s.nodes ++ [(4, [], val l k, q)]).length : Int) = _
          simp
          omega
        · rcases text_next hA hkl k4 hp with e | e | e
          · exact .inr (.inl e)
          · exact .inr (.inr (.inl e))
          · exact .inr (.inr (.inr e))
        · rw [hs2, hfl, flush_id hst, seg_cons l off (a := k) (b := endN l i) hke, hn]
          simp
      · have hlf := end_leaf hA hkl (by omega) (by omega)
        intro run
        have hpr : prN l k = 60 :: (33 :: 45 :: 45 :: (val l k ++ [45, 45, 62])) := by
          rw [prN_at (tree_rng hA) hkl, if_neg (by omega), if_neg (by omega), if_pos k5]
          simp
        rw [hpr, List.cons_append]
        have hn : ndO l off k = (5, [], said (val l k), q) := by
          unfold ndO linV
          rw [k5, hp, hnm, hq]
          rfl
        refine mk (33 :: 45 :: 45 :: (val l k ++ [45, 45, 62])) 1 (add s (5, [], said (val l k), q)) run (fun e => by cases e.2) (by
          have e : 33 :: 45 :: 45 :: (val l k ++ [45, 45, 62]) ++ ((kidsFrom l i (endN l k)).flatMap (prN l) ++ r) = 33 :: 45 :: (45 :: (val l k ++ 45 :: 45 :: 62 :: ((kidsFrom l i (endN l k)).flatMap (prN l) ++ r))) := by simp
          rw [e, mark_comm, comm_write hv1 hv2]) ?_ ?_ ?_ ?_
        · rw [add_st (x := (5, [], said (val l k), q)) (by simp), hlf, seg_cons l off (a := k) (b := k + 1) (by omega), seg_nil, hn]
        · rw [add_st (x := (5, [], said (val l k), q)) (by simp)]
        · rw [add_st (x := (5, [], said (val l k), q)) (by simp)]
        · rw [add_st (x := (5, [], said (val l k), q)) (by simp)]
      · have hlf := end_leaf hA hkl (by omega) (by omega)
        intro run
        have hpr : prN l k = 60 :: (63 :: (nam l k ++ (if val l k = [] then [] else 32 :: val l k) ++ [63, 62])) := by
          rw [prN_at (tree_rng hA) hkl, if_neg (by omega), if_neg (by omega), if_neg (by omega), if_pos k6]
          simp
        rw [hpr, List.cons_append]
        have hn : ndO l off k = (6, nam l k, said (val l k), q) := by
          unfold ndO linV
          rw [k6, hp, hq]
          rfl
        refine mk (63 :: (nam l k ++ (if val l k = [] then [] else 32 :: val l k) ++ [63, 62])) 1 (add s (6, nam l k, said (val l k), q)) run (fun e => by cases e.2) (by
          rw [List.cons_append, mark_instr, instr_write hnm hx hv1 hv2]) ?_ ?_ ?_ ?_
        · rw [add_st (x := (6, nam l k, said (val l k), q)) (by simp), hlf, seg_cons l off (a := k) (b := k + 1) (by omega), seg_nil, hn]
        · rw [add_st (x := (6, nam l k, said (val l k), q)) (by simp)]
        · rw [add_st (x := (6, nam l k, said (val l k), q)) (by simp)]
        · rw [add_st (x := (6, nam l k, said (val l k), q)) (by simp)]
theorem elem_rt (hdp : ∀ k, k < l.length → kin l k = 2 → depN l k ≤ 60) : ∀ (n i : Nat), l.length - i ≤ n → i < l.length → kin l i = 2 → ElR l i := by
  intro n
  induction n with
  | zero => intro i h1 h2; omega
  | succ n ih =>
    intro i h1 hi h2 N off p d s r hlen hd
    have ihE : ∀ k, i < k → k < l.length → kin l k = 2 → ElR l k := fun k hk hkl hk2 => ih k (by omega) hkl hk2
    obtain ⟨hnm, hv⟩ := fit_2 hA hi h2
    have hd60 := hdp i hi h2
    obtain ⟨s1, s2, s3, s4⟩ := runN_spec l i hi
    obtain ⟨Q, hQ⟩ : ∃ Q, (flush s p).nodes.length = Q := ⟨_, rfl⟩
    have hQi : (Q : Int) = i - off := by omega
    -- what stands behind the attributes
    obtain ⟨r2, hr2⟩ : ∃ r2, (if childs l i = [] then [47, 62] else 62 :: ((childs l i).flatMap (prN l) ++ ([60, 47] ++ nam l i ++ [62]))) ++ r = r2 := ⟨_, rfl⟩
    have hr2b : blankH r2 = false := by
      rw [← hr2]
      split <;> rfl
    have hT : elT l i ++ r = nam l i ++ ((List.range' (i + 1) (Ppr.runN l i - (i + 1))).flatMap (fun j => 32 :: prN l j) ++ r2) := by
      unfold elT
      rw [← hr2]
      simp only [List.append_assoc]
    have hstop : Pch.nameB (peek ((List.range' (i + 1) (Ppr.runN l i - (i + 1))).flatMap (fun j => 32 :: prN l j) ++ r2)) = false := by
      by_cases e : Ppr.runN l i = i + 1
      · rw [e, Nat.sub_self]
        show Pch.nameB (peek r2) = false
        rw [← hr2]
        split
        · exact name_stop 47 _ (by decide) (by decide)
        · exact name_stop 62 _ (by decide) (by decide)
      · rw [show Ppr.runN l i - (i + 1) = (Ppr.runN l i - (i + 1) - 1) + 1 by omega, List.range'_succ, List.flatMap_cons]
        exact name_stop 32 _ (by decide) (by decide)
    have hE : elemS N p d (elT l i ++ r) (nam l i) s = ⟨(flush s p).nodes ++ [(2, nam l i, [], p)], [], s.twice, s.deep⟩ := by
      unfold elemS
      have e0 : ({ s with deep := if 60 < d ∧ s.deep < 0 then (N : Int) - (elT l i ++ r).length - 1 else s.deep } : St) = s := by
        rw [if_neg (by omega)]
      rw [e0]
      exact add_st (x := (2, nam l i, [], p)) (by simp)
    obtain ⟨f1, ha⟩ := attrs_rt hA (N := N) (x := (2, nam l i, [], p)) hi hQi hQ hr2b _ (i + 1) (Nat.le_refl _) (by omega) (Nat.le_refl _) s.twice s.deep
    rw [seg_nil, List.append_nil] at ha
    have hkid := kid_attrs hA hi
    have hre := run_end hA hi
    have start : ∀ f, f1 ≤ f + 1 → elemF N (f + 1) p d (elT l i ++ r) s = tailM N f (nam l i) Q d (.ok (r2, ⟨(flush s p).nodes ++ [(2, nam l i, [], p)] ++ seg l off (i + 1) (Ppr.runN l i), [], s.twice, s.deep⟩)) := by
      intro f hf
      rw [elem_tail, hT, nameM_write hnm hstop]
      dsimp only
      rw [← hT, hE]
      dsimp only
      have hpr : ((flush s p).nodes ++ [(2, nam l i, [], p)]).length.pred = Q := by rw [List.length_append, hQ]; rfl
      rw [hpr, attrs_up ha hf]
    by_cases hc : childs l i = []
    · rw [if_pos hc] at hr2
      have hen : endN l i = Ppr.runN l i := by
        have hs : Ppr.runN l i = l.length ∨ par l (Ppr.runN l i) ≠ i := by
          by_cases e : Ppr.runN l i = l.length
          · exact .inl e
          · refine .inr fun e2 => ?_
            have := hkid.rest
            rw [hc, kidsFrom_at hA (by omega) e2] at this
            cases this
        exact (kid_stop hA hkid hs).2
      refine ⟨f1 + 1, ?_⟩
      rw [start f1 (by omega), ← hr2]
      show tailM N f1 (nam l i) Q d (.ok (47 :: 62 :: r, _)) = _
      rw [tail_slash, mustL_eq]
      dsimp only [mustL]
      rw [hen, List.append_assoc]
      rfl
    · rw [if_neg hc] at hr2
      have hq0 : (0 : Int) ≤ (Q : Int) := by omega
      have hrest := kids_rt hA (N := N) (d := d) (off := off) (q := (Q : Int)) (r := 60 :: 47 :: (nam l i ++ 62 :: r)) (o := .ok (nam l i ++ 62 :: r, ⟨(flush s p).nodes ++ (2, nam l i, [], p) :: seg l off (i + 1) (endN l i), [], s.twice, s.deep⟩)) hi hQi hd ihE _ (Ppr.runN l i) [] ⟨(flush s p).nodes ++ [(2, nam l i, [], p)] ++ seg l off (i + 1) (Ppr.runN l i), [], s.twice, s.deep⟩ hkid (Nat.le_refl _) (Nat.le_refl _)
        (by
          rw [flush_id rfl]
          show ((((flush s p).nodes ++ [(2, nam l i, [], p)] ++ seg l off (i + 1) (Ppr.runN l i)).length : Nat) : Int) = _
          rw [List.length_append, List.length_append, hQ, seg_len]
          simp only [List.length_cons, List.length_nil]
          omega) (.inl rfl) (fun s5 hs5 => by
          intro run
          refine ⟨1, ?_⟩
          rw [cont_close hq0, hs5, flush_id rfl]
          congr 4
          show (flush s p).nodes ++ [(2, nam l i, [], p)] ++ seg l off (i + 1) (Ppr.runN l i) ++ seg l off (Ppr.runN l i) (endN l i) = _
          rw [List.append_assoc, ← seg_app l off (a := i + 1) (b := Ppr.runN l i) (c := endN l i) (by omega) hre, List.append_assoc]
          rfl)
      obtain ⟨f2, hf2⟩ := hrest 0
      have hkf := hkid.rest
      rw [List.nil_append] at hkf
      refine ⟨max f1 f2 + 1, ?_⟩
      rw [start _ (by have := Nat.le_max_left f1 f2; omega), ← hr2]
      have e2 : 62 :: ((childs l i).flatMap (prN l) ++ ([60, 47] ++ nam l i ++ [62])) ++ r = 62 :: ((kidsFrom l i (Ppr.runN l i)).flatMap (prN l) ++ 60 :: 47 :: (nam l i ++ 62 :: r)) := by
        rw [hkf]
        simp
      rw [e2, tail_cont (r3 := (kidsFrom l i (Ppr.runN l i)).flatMap (prN l) ++ 60 :: 47 :: (nam l i ++ 62 :: r)) (by simp) (by rw [mustL_eq]; rfl), cont_up hf2 (Nat.le_max_right _ _)]
      dsimp only
      have hcl : closeM (nam l i) (nam l i ++ 62 :: r) = .ok r := by
        unfold closeM
        rw [againL_write hnm]
        dsimp only
        rw [blanks_none (r := 62 :: r) rfl, mustL_eq]
        rfl
      rw [hcl]
end
end Go.Proofs.YtemfmidhekdekaaGreatDoor.Ppa
namespace Go.Proofs.YtemfmidhekdekaaGreatDoor.Ppa
open Go Go.Lib Go.Proofs.YtemfmidhekdekaaGreatDoor.Ptr Go.Proofs.YtemfmidhekdekaaGreatDoor.Wps Go.Proofs.YtemfmidhekdekaaGreatDoor.Ppr

/-! ### more fuel for a document -/
theorem docF_more {N : Nat} : ∀ (f : Nat) (done : Bool) (r : Bs) (s : St) (o : Except Bs St), docF N f done r s = some o → docF N (f + 1) done r s = some o
  | 0, done, r, s, o, h => by unfold docF at h; cases h
  | f + 1, done, r, s, o, h => by
    by_cases h0 : blanksL r = []
    · rw [docF_nil h0] at h ⊢; exact h
    · by_cases h60 : (blanksL r).head? = some 60
      · obtain ⟨t, hb⟩ := head_cons h60
        by_cases h63 : t.head? = some 63
        · obtain ⟨u, rfl⟩ := head_cons h63
          rw [docF_pi hb] at h ⊢
          cases hi : instrM 0 u s with
          | error r1 => rw [hi] at h; exact h
          | ok q => rw [hi] at h; exact docF_more f done _ _ o h
        · by_cases h33 : t.head? = some 33
          · obtain ⟨u, rfl⟩ := head_cons h33
            rw [docF_bang hb] at h ⊢
            cases hm : mustL [45] u with
            | error r1 => rw [hm] at h; exact h
            | ok r0 =>
              rw [hm] at h
              dsimp only at h ⊢
              cases hi : commM 0 r0 s with
              | error r1 => rw [hi] at h; exact h
              | ok q => rw [hi] at h; exact docF_more f done _ _ o h
          · rw [docF_elem hb h63 h33] at h ⊢
            split at h
            · rename_i hd
              rw [if_pos hd]
              exact h
            · rename_i hd
              rw [if_neg hd]
              cases he : elemF N f 0 1 t s with
              | none => rw [he] at h; cases h
              | some q =>
                rw [he] at h
                rw [(kf_all N f).elem _ _ _ _ _ he]
                cases q with
                | error r1 => exact h
                | ok q2 => exact docF_more f true _ _ o h
      · rw [docF_bad h0 h60] at h ⊢; exact h
theorem docF_up {N f g : Nat} {done : Bool} {r : Bs} {s : St} {o : Except Bs St} (h : docF N f done r s = some o) (hg : f ≤ g) : docF N g done r s = some o := by
  obtain ⟨k, rfl⟩ : ∃ k, g = f + k := ⟨g - f, by omega⟩
  clear hg
  induction k with
  | zero => exact h
  | succ k ih => exact docF_more _ _ _ _ _ ih
theorem docF_same {N f g : Nat} {done : Bool} {r : Bs} {s : St} {o o' : Except Bs St} (h : docF N f done r s = some o) (h2 : docF N g done r s = some o') : o = o' := by
  have a := docF_up h (Nat.le_max_left f g)
  have b := docF_up h2 (Nat.le_max_right f g)
  rw [a] at b
  injection b
theorem cont_same {N f g : Nat} {p : Int} {d run : Nat} {r : Bs} {s : St} {o o' : Except Bs (Bs × St)} (h : contF N f p d run r s = some o) (h2 : contF N g p d run r s = some o') : o = o' := by
  have a := cont_up h (Nat.le_max_left f g)
  have b := cont_up h2 (Nat.le_max_right f g)
  rw [a] at b
  injection b
/-- a fragment is told so, if with some fuel it is -/
theorem frag_told_of {l : Bs} {st : St} (hl : l.length ≤ 65536) (ht : Pch.textsL l = true) {f : Nat} {r : Bs} (h : contF l.length f (-1) 0 0 l st0 = some (.ok (r, st))) (h1 : st.twice < 0) (h2 : st.deep < 0) (h3 : st.nodes.length ≤ 16384) : fragmentL l = (st.nodes, 0, 0) := by
  obtain ⟨o, ho⟩ := fragM_some l
  unfold fragmentL
  rw [allM_told (by omega) (wrongF_none _ _ _ ht) ho]
  have e : o = .ok st := by
    unfold fragM at ho
    split at ho
    · cases ho
    · rename_i e
      have := cont_same h e
      cases this
    · rename_i e
      have := cont_same h e
      injection ho with ho
      injection this with this
      injection this with _ this
      rw [← ho, this]
  rw [e, told_ok (by omega) (by omega) (by omega)]
/-! ### a document's parts -/
theorem elems_mono (l : List Nd) (a b : Nat) (h : a ≤ b) : elems l a ≤ elems l b := by
  induction b with
  | zero =>
    obtain rfl : a = 0 := by omega
    exact Nat.le_refl _
  | succ b ih =>
    by_cases e : a = b + 1
    · subst e; exact Nat.le_refl _
    · have := ih (by omega)
      show elems l a ≤ elems l b + _
      omega
section
variable {l : List Nd} (hA : allB l true l.length = true)
include hA
theorem root_one (h0 : 0 < l.length) : kin l 0 = 1 := by
  have hg := allB_good hA 0 h0
  unfold good headB at hg
  simp at hg
  exact hg.2.1.1
theorem no_text {k : Nat} (h0 : 0 < l.length) (hk : k < l.length) (hp : par l k = (0 : Nat)) : kin l k ≠ 4 := by
  intro h4
  have hf := fit_at hA hk (par_pos hA hk hp)
  unfold fitsK at hf
  rw [if_neg (by omega), if_neg (by omega), if_pos h4, hp] at hf
  unfold underB at hf
  simp only [Bool.and_eq_true] at hf
  have := hf.1.1.1
  rw [show ((0 : Nat) : Int).toNat = 0 from rfl, root_one hA h0] at this
  simp at this
theorem elems_seg {k : Nat} (hk : k < l.length) (hp : par l k = (0 : Nat)) : elems l (endN l k) = elems l k + if kin l k = 2 then 1 else 0 := by
  obtain ⟨a1, a2, a3, _⟩ := endN_spec l k hk
  have hkp : 0 < k := by have := tree_rng hA k hk; omega
  have key : ∀ n, k + 1 ≤ n → n ≤ endN l k → elems l n = elems l k + if kin l k = 2 then 1 else 0 := by
    intro n
    induction n with
    | zero => intro h; omega
    | succ n ih =>
      intro h1 h2
      by_cases e : n = k
      · subst e
        show elems l n + (if kin l n = 2 ∧ par l n = 0 then 1 else 0) = _
        by_cases h2 : kin l n = 2
        · rw [if_pos ⟨h2, hp⟩, if_pos h2]
        · rw [if_neg (fun e => h2 e.1), if_neg h2]
      · show elems l n + (if kin l n = 2 ∧ par l n = 0 then 1 else 0) = _
        have := a3 n (by omega) (by omega)
        have hne : ¬ (kin l n = 2 ∧ par l n = 0) := by omega
        rw [ih (by omega) (by omega), if_neg hne, Nat.add_zero]
  exact key _ (by omega) (Nat.le_refl _)
theorem docs_rt (hdp : ∀ k, k < l.length → kin l k = 2 → depN l k ≤ 60) (h0 : 0 < l.length) (h1 : ∀ k, k < l.length → par l k < 0 → k = 0) (he : elems l l.length = 1) {N : Nat} :
    ∀ (m k : Nat) (V : List Nat) (F : List Nd) (tw dp : Int), Kid l 0 k V → l.length - k ≤ m → F.length = k →
      ∃ f, docF N f (decide (elems l k = 1)) ((kidsFrom l 0 k).flatMap (prN l)) ⟨F, [], tw, dp⟩ = some (.ok ⟨F ++ seg l 0 k l.length, [], tw, dp⟩) := by
  have hend0 : ∀ k V, Kid l 0 k V → (k = l.length ∨ par l k ≠ (0 : Nat)) → k = l.length := by
    intro k V hk hs
    rcases hs with e | e
    · exact e
    · rcases hk.edge with e2 | e2
      · exact e2
      · have hlo := hk.lo
        have hhi := hk.hi
        apply Classical.byContradiction
        intro hne
        have hr := tree_rng hA k (by omega)
        have := h1 k (by omega) (by omega)
        omega
  intro m
  induction m with
  | zero =>
    intro k V F tw dp hk hm hF
    have hkl : k = l.length := by have := hk.hi; omega
    have hf := (kids_end hA h0 hk.lo hk.hi hk.below (.inl hkl)).1
    rw [hf, hkl, he]
    refine ⟨1, ?_⟩
    rw [seg_nil, List.append_nil]
    exact docF_nil rfl
  | succ m ih =>
    intro k V F tw dp hk hm hF
    by_cases hstop : k = l.length ∨ par l k ≠ (0 : Nat)
    · have hkl := hend0 k V hk hstop
      have hf := (kids_end hA h0 hk.lo hk.hi hk.below (.inl hkl)).1
      rw [hf, hkl, he]
      refine ⟨1, ?_⟩
      rw [seg_nil, List.append_nil]
      exact docF_nil rfl
    · have hkl : k < l.length := by
        have := hk.hi
        rcases Nat.lt_or_ge k l.length with e | e
        · exact e
        · exact absurd (.inl (by omega)) hstop
      have hp : par l k = (0 : Nat) := Classical.byContradiction fun e => hstop (.inr e)
      have hlo := hk.lo
      have hend := endN_spec l k hkl
      have hnext := kid_step hA hk hkl hp
      have hels := elems_seg hA hkl hp
      have hrun : Ppr.runN l 0 ≤ k := by
        have hr0 := (kid_root hA h0 (by rw [root_one hA h0]; decide)).lo
        obtain ⟨s1, s2, s3, s4⟩ := runN_spec l 0 h0
        apply Classical.byContradiction
        intro hc
        have h3 := s3 (0 + 1) (by omega) (by omega)
        have := (attr_run hA (j := 1) (by omega) h3.1 h3.2).1
        rw [root_one hA h0] at this
        cases this
      rw [kidsFrom_at hA hkl hp, List.flatMap_cons]
      have hseg := seg_app l 0 (a := k) (b := endN l k) (c := l.length) (by omega) hend.2.1
      obtain ⟨R, hR⟩ : ∃ R, (kidsFrom l 0 (endN l k)).flatMap (prN l) = R := ⟨_, rfl⟩
      rw [hR]
      have hi := fun (G : List Nd) (hG : G.length = endN l k) => ih (endN l k) _ G tw dp hnext (by omega) hG
      rw [hR] at hi
      have hkeep : kin l k ≠ 2 → elems l (endN l k) = elems l k := fun e => by rw [hels, if_neg e]; rfl
      have leaf : ∀ x : Nd, x.1 ≠ 3 → x.1 ≠ 2 → x.2.2.2 = 0 → kin l k ≠ 2 → kin l k ≠ 1 → ndO l 0 k = x → ∀ f, docF N f (decide (elems l k = 1)) R (add ⟨F, [], tw, dp⟩ x) = docF N f (decide (elems l (endN l k) = 1)) R ⟨F ++ seg l 0 k (endN l k), [], tw, dp⟩ := by
        intro x x3 _ xp k2 k1 hx f
        have hlf := end_leaf hA hkl k1 k2
        rw [hkeep k2, add_st x3, hlf, seg_cons l 0 (a := k) (b := k + 1) (by omega), seg_nil, hx]
        rfl
      have fin : (∃ f, docF N f (decide (elems l (endN l k) = 1)) R ⟨F ++ seg l 0 k (endN l k), [], tw, dp⟩ = some (.ok ⟨F ++ seg l 0 k l.length, [], tw, dp⟩)) := by
        obtain ⟨f, hf⟩ := hi (F ++ seg l 0 k (endN l k)) (by rw [List.length_append, seg_len]; omega)
        refine ⟨f, ?_⟩
        rw [hf, hseg, List.append_assoc]
      obtain ⟨f, hf⟩ := fin
      rcases kid_kinds hA h0 hkl hp hrun with ⟨k2, hnm, hv⟩ | ⟨k4, _, _⟩ | ⟨k5, hnm, hv1, hv2⟩ | ⟨k6, hnm, hx, hv1, hv2⟩
      · rw [hels, if_pos k2] at hf
        have hone : elems l (endN l k) ≤ 1 := by
          have := elems_mono l (endN l k) l.length hend.2.1
          omega
        have hz : elems l k = 0 := by rw [hels, if_pos k2] at hone; omega
        rw [hz] at hf ⊢
        have hd1 : 1 ≤ depN l k := by
          rw [depN_step (tree_rng hA) k hkl, if_pos k2]
          omega
        obtain ⟨f1, hf1⟩ := elem_rt hA hdp _ k (Nat.le_refl _) hkl k2 N 0 0 1 ⟨F, [], tw, dp⟩ R (by rw [flush_id rfl]; show (F.length : Int) = _; omega) hd1
        rw [flush_id rfl] at hf1
        refine ⟨max f1 f + 1, ?_⟩
        rw [pr_elem hA hkl k2]
        obtain ⟨c, t, hct, _, _, _, c63, c33, _⟩ := name_head hnm
        have hhd : ∀ z : UInt8, z ≠ c → (elT l k ++ R).head? ≠ some z := by
          intro z hz
          unfold elT
          rw [hct]
          simpa using fun e => hz e.symm
        rw [List.cons_append, docF_elem (t := elT l k ++ R) (blanksL_of_false rfl) (hhd 63 (fun e => c63 e.symm)) (hhd 33 (fun e => c33 e.symm)), if_neg (by simp), elem_up hf1 (Nat.le_max_left _ _)]
        dsimp only
        have hst : (⟨F ++ (2, nam l k, [], 0) :: seg l 0 (k + 1) (endN l k), [], tw, dp⟩ : St) = ⟨F ++ seg l 0 k (endN l k), [], tw, dp⟩ := by
          have hn : ndO l 0 k = (2, nam l k, [], 0) := by
            unfold ndO linV
            rw [k2, hp, hv]
            rfl
          rw [seg_cons l 0 (a := k) (b := endN l k) hend.1, hn]
        show docF N (max f1 f) true R (⟨F ++ (2, nam l k, [], 0) :: seg l 0 (k + 1) (endN l k), [], tw, dp⟩ : St) = _
        rw [hst]
        exact docF_up hf (Nat.le_max_right _ _)
      · exact absurd k4 (no_text hA h0 hkl hp)
      · refine ⟨f + 1, ?_⟩
        have hpr : prN l k ++ R = 60 :: 33 :: (45 :: (45 :: (val l k ++ 45 :: 45 :: 62 :: R))) := by
          rw [prN_at (tree_rng hA) hkl, if_neg (by omega), if_neg (by omega), if_pos k5]
          simp
        rw [hpr, docF_bang (t := 45 :: (45 :: (val l k ++ 45 :: 45 :: 62 :: R))) (blanksL_of_false rfl), mustL_eq]
        dsimp only [mustL]
        rw [comm_write hv1 hv2]
        dsimp only
        rw [leaf (5, [], said (val l k), 0) (by simp) (by simp) rfl (by omega) (by omega) (by
          unfold ndO linV
          rw [k5, hp, hnm]
          rfl) f]
        exact hf
      · refine ⟨f + 1, ?_⟩
        have hpr : prN l k ++ R = 60 :: 63 :: (nam l k ++ (if val l k = [] then [] else 32 :: val l k) ++ [63, 62] ++ R) := by
          rw [prN_at (tree_rng hA) hkl, if_neg (by omega), if_neg (by omega), if_neg (by omega), if_pos k6]
          simp
        rw [hpr, docF_pi (t := nam l k ++ (if val l k = [] then [] else 32 :: val l k) ++ [63, 62] ++ R) (blanksL_of_false rfl), instr_write hnm hx hv1 hv2]
        dsimp only
        rw [leaf (6, nam l k, said (val l k), 0) (by simp) (by simp) rfl (by omega) (by omega) (by
          unfold ndO linV
          rw [k6, hp]
          rfl) f]
        exact hf
end
/-! ### what a right row is -/
theorem chk_inv {l : List Nd} {root : Bool} (h : chk l root = 0) : l.length ≤ 16384 ∧ allB l root l.length = true ∧ (root = true → tops l l.length = 1 ∧ elems l l.length = 1) ∧ deepest l l.length ≤ 60 := by
  unfold chk at h
  split at h
  · cases h
  · split at h
    · cases h
    · rename_i h2
      split at h
      · cases h
      · rename_i h3
        split at h
        · cases h
        · rename_i h4
          refine ⟨by omega, by simpa using h2, fun hr => ⟨?_, ?_⟩, by omega⟩
          · exact Classical.byContradiction fun e => h3 ⟨hr, .inl e⟩
          · exact Classical.byContradiction fun e => h3 ⟨hr, .inr e⟩
theorem deepest_mem {l : List Nd} {n : Nat} : ∀ m, deepest l m ≤ n → ∀ k, k < m → kin l k = 2 → depN l k ≤ n
  | 0, _, k, h, _ => by omega
  | m + 1, h, k, hk, h2 => by
    have h : (if kin l m = 2 then max (deepest l m) (depN l m) else deepest l m) ≤ n := h
    by_cases e : k = m
    · subst e
      rw [if_pos h2] at h
      omega
    · have h3 : deepest l m ≤ n := by
        split at h <;> omega
      exact deepest_mem m h3 k (by omega) h2
theorem tops_two {l : List Nd} {k : Nat} (h0 : par l 0 < 0) (hk : 0 < k) (hp : par l k < 0) : ∀ n, (0 < n → 1 ≤ tops l n) ∧ (k < n → 2 ≤ tops l n)
  | 0 => ⟨fun h => by omega, fun h => by omega⟩
  | n + 1 => by
    obtain ⟨a, b⟩ := tops_two h0 hk hp n
    have e : tops l (n + 1) = tops l n + if par l n < 0 then 1 else 0 := rfl
    rw [e]
    refine ⟨fun _ => ?_, fun h => ?_⟩
    · by_cases e2 : n = 0
      · subst e2; rw [if_pos h0]; omega
      · have := a (by omega); omega
    · by_cases e2 : k = n
      · subst e2
        rw [if_pos hp]
        have := a hk
        omega
      · have := b (by omega)
        omega
theorem one_top {l : List Nd} (hr : Rng l l.length) (h : tops l l.length = 1) : ∀ k, k < l.length → par l k < 0 → k = 0 := by
  intro k hk hp
  apply Classical.byContradiction
  intro hne
  have h0 := hr 0 (by omega)
  have := (tops_two (l := l) (k := k) (by omega) (by omega) hp l.length).2 hk
  omega
/-! ### the text has characters of texts alone -/
theorem texts_two {a b : Bs} (ha : Pch.textsL a = true) (hb : Pch.textsL b = true) : Pch.textsL (a ++ b) = true := by rw [Pch.texts_left _ _ ha, hb]
theorem texts_flat {α : Type} (f : α → Bs) : ∀ L : List α, (∀ x ∈ L, Pch.textsL (f x) = true) → Pch.textsL (L.flatMap f) = true
  | [], _ => rfl
  | x :: L, h => by
    rw [List.flatMap_cons]
    exact texts_two (h x (by simp)) (texts_flat f L fun y hy => h y (by simp [hy]))
theorem putL_high {h : UInt8 → Bs} (hh : ∀ c : UInt8, 128 ≤ c.toNat → h c = []) : ∀ (u t : Bs), (∀ y ∈ u, 128 ≤ y.toNat) → putL h (u ++ t) = u ++ putL h t
  | [], _, _ => rfl
  | x :: u, t, hu => by
    rw [List.cons_append, putL_cons, putL_high hh u t fun y hy => hu y (by simp [hy])]
    unfold putC
    rw [if_pos (hh x (hu x (by simp)))]
    rfl
theorem putL_texts {h : UInt8 → Bs} (hh : ∀ c : UInt8, 128 ≤ c.toNat → h c = []) (hl : ∀ c : UInt8, c.toNat < 128 → Pch.charB (c.toNat : Int) = true → Pch.textsL (putC h c) = true) : ∀ (n : Nat) (v : Bs), v.length ≤ n → Pch.textsL v = true → Pch.textsL (putL h v) = true
  | _, [], _, _ => rfl
  | 0, _ :: _, hn, _ => by simp at hn
  | n + 1, x :: t, hn, ht => by
    rcases Nat.lt_or_ge x.toNat 128 with hx | hx
    · rw [putL_cons]
      exact texts_two (hl x hx (texts_char hx ht)) (putL_texts hh hl n t (by simpa using hn) (texts_low hx ht))
    · have hne : (x :: t) ≠ [] := by simp
      have hw := decodeL_width (x :: t)
      have h3 := putL_high hh _ (skip (x :: t)) (char_high hx ht)
      unfold skip at h3
      rw [List.take_append_drop] at h3
      rw [h3]
      exact texts_two (texts_take hne ht) (putL_texts hh hl n _ (by rw [List.length_drop]; simp at hn ⊢; omega) (texts_step hne ht).2.2)
theorem textC_high (c : UInt8) (h : 128 ≤ c.toNat) : textC c = [] := by
  unfold textC
  rw [if_neg (fun e => by rw [e] at h; revert h; decide), if_neg (fun e => by rw [e] at h; revert h; decide), if_neg (fun e => by rw [e] at h; revert h; decide), if_neg (fun e => by rw [e] at h; revert h; decide)]
theorem valueC_high (c : UInt8) (h : 128 ≤ c.toNat) : valueC c = [] := by
  unfold valueC
  rw [if_neg (fun e => by rw [e] at h; revert h; decide), if_neg (fun e => by rw [e] at h; revert h; decide), if_neg (fun e => by rw [e] at h; revert h; decide), if_neg (fun e => by rw [e] at h; revert h; decide)]
  exact textC_high c h
theorem one_text (c : UInt8) (h : c.toNat < 128) (hc : Pch.charB (c.toNat : Int) = true) : Pch.textsL [c] = true := by rw [texts_cons h hc]; rfl
theorem textC_put (c : UInt8) (h : c.toNat < 128) (hc : Pch.charB (c.toNat : Int) = true) : Pch.textsL (putC textC c) = true := by
  unfold putC
  split
  · exact one_text c h hc
  · unfold textC
    split
    · decide
    · split
      · decide
      · split
        · decide
        · split
          · decide
          · rfl
theorem valueC_put (c : UInt8) (h : c.toNat < 128) (hc : Pch.charB (c.toNat : Int) = true) : Pch.textsL (putC valueC c) = true := by
  unfold putC
  split
  · exact one_text c h hc
  · unfold valueC
    split
    · decide
    · split
      · decide
      · split
        · decide
        · split
          · rfl
          · unfold textC
            split
            · decide
            · split
              · decide
              · split
                · decide
                · rfl
theorem esc_texts {v : Bs} (h : Pch.textsL v = true) : Pch.textsL (escL v) = true := putL_texts textC_high textC_put v.length v (Nat.le_refl _) h
theorem quo_texts {v : Bs} (h : Pch.textsL v = true) : Pch.textsL (quoL v) = true := by
  unfold quoL
  rw [texts_cons (by decide) (by decide)]
  exact texts_two (putL_texts valueC_high valueC_put v.length v (Nat.le_refl _) h) (by decide)
section
variable {l : List Nd} {root : Bool} (hA : allB l root l.length = true)
include hA
theorem val_texts {k : Nat} (hk : k < l.length) : Pch.textsL (val l k) = true := by
  have hg := allB_good hA k hk
  unfold good at hg
  rw [Bool.and_eq_true] at hg
  have hg := hg.2
  split at hg
  · unfold headB at hg
    simp only [Bool.and_eq_true, decide_eq_true_eq] at hg
    rw [hg.2]
    rfl
  · unfold fitsB at hg
    simp only [Bool.and_eq_true] at hg
    exact hg.1.1
theorem val_len {k : Nat} (hk : k < l.length) : (val l k).length ≤ 65536 := by
  have hg := allB_good hA k hk
  unfold good at hg
  rw [Bool.and_eq_true] at hg
  have hg := hg.2
  split at hg
  · unfold headB at hg
    simp only [Bool.and_eq_true, decide_eq_true_eq] at hg
    rw [hg.2]
    exact Nat.zero_le _
  · unfold fitsB at hg
    simp only [Bool.and_eq_true, decide_eq_true_eq] at hg
    exact hg.1.2
theorem nam_texts {k : Nat} (hk : k < l.length) : Pch.textsL (nam l k) = true := by
  have hg := allB_good hA k hk
  unfold good at hg
  rw [Bool.and_eq_true] at hg
  have hg := hg.2
  split at hg
  · unfold headB at hg
    simp only [Bool.and_eq_true, decide_eq_true_eq] at hg
    rw [hg.1.2]
    rfl
  · unfold fitsB fitsK at hg
    rw [Bool.and_eq_true] at hg
    have hg := hg.2
    split at hg
    · simp only [Bool.and_eq_true] at hg
      exact Pch.texts_of_name hg.1.2
    · split at hg
      · simp only [Bool.and_eq_true] at hg
        exact Pch.texts_of_name hg.1.1.2
      · split at hg
        · simp only [Bool.and_eq_true, decide_eq_true_eq] at hg
          rw [hg.1.1.2]
          rfl
        · split at hg
          · simp only [Bool.and_eq_true, decide_eq_true_eq] at hg
            rw [hg.1.1.2]
            rfl
          · split at hg
            · simp only [Bool.and_eq_true] at hg
              exact Pch.texts_of_name hg.1.1.1.2
            · cases hg
theorem pr_texts : ∀ (f k : Nat), k < l.length → Pch.textsL (prF l f k) = true
  | 0, _, _ => rfl
  | f + 1, k, hk => by
    have hv := val_texts hA hk
    have hn := nam_texts hA hk
    have hr := tree_rng hA
    have kids : Pch.textsL ((childs l k).flatMap (prF l f)) = true := texts_flat _ _ fun j hj => pr_texts f j (childs_mem hr hj).2
    unfold prF
    split
    · refine texts_two hn ?_
      rw [texts_cons (by decide) (by decide)]
      exact quo_texts hv
    · split
      · exact esc_texts hv
      · split
        · exact texts_two (texts_two (by decide) hv) (by decide)
        · split
          · refine texts_two (texts_two (texts_two (by decide) hn) ?_) (by decide)
            split
            · rfl
            · rw [texts_cons (by decide) (by decide)]
              exact hv
          · split
            · exact kids
            · rw [List.cons_append, List.cons_append, texts_cons (by decide) (by decide)]
              refine texts_two (texts_two hn ?_) ?_
              · refine texts_flat _ _ fun j hj => ?_
                have hj := List.mem_range'_1.1 hj
                have := (runN_spec l k hk).2.1
                rw [texts_cons (by decide) (by decide)]
                exact pr_texts f j (by omega)
              · split
                · decide
                · rw [texts_cons (by decide) (by decide)]
                  exact texts_two kids (texts_two (texts_two (by decide) hn) (by decide))
end
/-! ### a document -/
/-- the same row, with one kind of line ends -/
def linesN (l : List Nd) : List Nd := seg l 0 0 l.length
theorem kids_one {l : List Nd} (hA : allB l true l.length = true) (h0 : 0 < l.length) : prN l 0 = (kidsFrom l 0 1).flatMap (prN l) := by
  have hk := root_one hA h0
  have hkid := kid_root hA h0 (by rw [hk]; decide)
  have := hkid.rest
  rw [List.nil_append] at this
  rw [prN_at (tree_rng hA) h0, if_neg (by omega), if_neg (by omega), if_neg (by omega), if_neg (by omega), if_pos hk, this]
theorem no_decl {l : List Nd} (hA : allB l true l.length = true) (h2 : 1 < l.length) (hp : par l 1 = (0 : Nat)) : ¬ (hasPrefix (prN l 0) xmlW = true ∧ blankH ((prN l 0).drop 5) = true) := by
  rintro ⟨h1, h3⟩
  have h0 : 0 < l.length := by omega
  have hr := tree_rng hA
  rw [kids_one hA h0, kidsFrom_at hA h2 hp, List.flatMap_cons] at h1 h3
  generalize (kidsFrom l 0 (endN l 1)).flatMap (prN l) = R at h1 h3
  obtain ⟨z, hz⟩ := List.isPrefixOf_iff_prefix.1 h1
  have hrun : Ppr.runN l 0 ≤ 1 := by
    obtain ⟨s1, s2, s3, s4⟩ := runN_spec l 0 h0
    apply Classical.byContradiction
    intro hc
    have h3 := s3 (0 + 1) (by omega) (by omega)
    have := (attr_run hA (j := 1) (by omega) h3.1 h3.2).1
    rw [root_one hA h0] at this
    cases this
  rcases kid_kinds hA h0 h2 hp hrun with ⟨k2, hnm, hv⟩ | ⟨k4, _, _⟩ | ⟨k5, _, _, _⟩ | ⟨k6, hnm, hx, _, _⟩
  · obtain ⟨c, t, hct, _, _, _, c63, _⟩ := name_head hnm
    rw [pr_elem hA h2 k2] at hz
    unfold elT at hz
    rw [hct] at hz
    have hz : (60 :: 63 :: 120 :: 109 :: 108 :: z : Bs) = 60 :: (c :: t ++ _ ++ _) ++ R := hz
    simp only [List.cons_append] at hz
    injection hz with _ hz
    injection hz with hz _
    exact c63 hz.symm
  · exact absurd k4 (no_text hA h0 h2 hp)
  · rw [prN_at hr h2, if_neg (by omega), if_neg (by omega), if_pos k5] at hz
    have hz : (60 :: 63 :: 120 :: 109 :: 108 :: z : Bs) = [60, 33, 45, 45] ++ val l 1 ++ [45, 45, 62] ++ R := hz
    simp only [List.cons_append, List.nil_append] at hz
    injection hz with _ hz
    injection hz with hz _
    cases hz
  · rw [prN_at hr h2, if_neg (by omega), if_neg (by omega), if_neg (by omega), if_pos k6] at hz h3
    obtain ⟨y, hy⟩ : ∃ y, (if val l 1 = [] then ([] : Bs) else 32 :: val l 1) ++ [63, 62] ++ R = y := ⟨_, rfl⟩
    have e : [60, 63] ++ nam l 1 ++ (if val l 1 = [] then [] else 32 :: val l 1) ++ [63, 62] ++ R = 60 :: 63 :: (nam l 1 ++ y) := by rw [← hy]; simp
    rw [e] at hz h3
    have hz : (60 :: 63 :: ([120, 109, 108] ++ z) : Bs) = 60 :: 63 :: (nam l 1 ++ y) := hz
    injection hz with _ hz
    injection hz with _ hz
    have hzb : blankH z = true := by
      have h3 : blankH ((nam l 1 ++ y).drop 3) = true := h3
      rw [← hz] at h3
      exact h3
    have hys : Pch.nameB (peek y) = false := by
      rw [← hy]
      split
      · exact name_stop 63 _ (by decide) (by decide)
      · exact name_stop 32 _ (by decide) (by decide)
    have hzs : Pch.nameB (peek z) = false := by
      cases z with
      | nil => cases hzb
      | cons b u =>
        have hb : Pch.blankC b = true := hzb
        have hb4 : b = 9 ∨ b = 10 ∨ b = 13 ∨ b = 32 := by simpa [Pch.blankC, or_assoc] using hb
        rcases hb4 with rfl | rfl | rfl | rfl <;> exact name_stop _ _ (by decide) (by decide)
    have n1 := nameM_write hnm hys
    have n2 := nameM_write (nm := [120, 109, 108]) (r := z) (by decide) hzs
    rw [← hz, n2] at n1
    injection n1 with n1
    injection n1 with n1 _
    rw [← n1] at hx
    cases hx
theorem doc_pr {l : List Nd} (h : chk l true = 0) (hs : (prN l 0).length ≤ 65536) : documentL (prN l 0) = (linesN l, 0, 0) := by
  obtain ⟨hl, hA, hr, hd⟩ := chk_inv h
  obtain ⟨ht, he⟩ := hr rfl
  have hrng := tree_rng hA
  have h1 := one_top hrng ht
  have h0 : 0 < l.length := by
    rcases Nat.eq_zero_or_pos l.length with e | e
    · rw [e] at he; cases he
    · exact e
  have h2 : 1 < l.length := by
    rcases Nat.lt_or_ge 1 l.length with e | e
    · exact e
    · exfalso
      have : l.length = 1 := by omega
      rw [this] at he
      have he : (0 + if kin l 0 = 2 ∧ par l 0 = 0 then 1 else 0) = 1 := he
      rw [if_neg (by rw [root_one hA h0]; omega)] at he
      cases he
  have hp : par l 1 = (0 : Nat) := by
    have a := hrng 1 h2
    have b := fun e => h1 1 h2 e
    omega
  have hk := root_one hA h0
  have hkid := kid_root hA h0 (by rw [hk]; decide)
  obtain ⟨f, hf⟩ := docs_rt hA (fun k => deepest_mem _ hd k) h0 h1 he (N := (prN l 0).length) _ 1 [] [(1, [], [], -1)] (-1) (-1) hkid (Nat.le_refl _) rfl
  have he1 : elems l 1 = 0 := by
    show 0 + (if kin l 0 = 2 ∧ par l 0 = 0 then 1 else 0) = 0
    rw [if_neg (by omega)]
  rw [he1] at hf
  have hg := allB_good hA 0 h0
  unfold good headB at hg
  simp at hg
  have hp0 := hrng 0 h0
  have hn0 : ndO l 0 0 = (1, [], [], -1) := by
    unfold ndO linV
    rw [hk, hg.2.1.2, hg.2.2, if_neg (by decide), show par l 0 = -1 by omega]
    rfl
  have hseg : [(1, [], [], -1)] ++ seg l 0 1 l.length = linesN l := by
    unfold linesN
    rw [seg_cons l 0 (a := 0) (b := l.length) h0, hn0]
    rfl
  rw [hseg, ← kids_one hA h0] at hf
  have hlen : (linesN l).length = l.length := by unfold linesN; rw [seg_len]; omega
  have htx : Pch.textsL (prN l 0) = true := pr_texts hA _ _ h0
  obtain ⟨o, ho⟩ := docM_some (prN l 0)
  unfold documentL
  rw [allM_told (by omega) (wrongF_none _ _ _ htx) ho]
  have e : o = .ok ⟨linesN l, [], -1, -1⟩ := by
    rw [docM_eq, if_neg (no_decl hA h2 hp)] at ho
    exact docF_same ho hf
  rw [e, told_ok (by show ¬ (0 : Int) ≤ -1; decide) (by show ¬ (0 : Int) ≤ -1; decide) (by show ¬ 16384 < (linesN l).length; omega)]
end Go.Proofs.YtemfmidhekdekaaGreatDoor.Ppa
