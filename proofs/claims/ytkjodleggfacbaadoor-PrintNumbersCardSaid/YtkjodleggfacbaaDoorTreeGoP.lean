/- Plain: where the axes go (chapter 06): the document's way and the program's are one; no program in sight. -/
import Derived.Test.YtkjodleggfacbaaDoorTreePlain
namespace Go.Proofs.YtkjodleggfacbaaDoor.Ptr
open Go

/-- the first place from k on whose parent is ahead of i -/
def endF (l : List Nd) (i : Nat) : Nat → Nat → Nat
  | 0, k => k
  | f + 1, k => if k < l.length ∧ (i : Int) ≤ par l k then endF l i f (k + 1) else k
/-- the place behind a subtree -/
def endN (l : List Nd) (i : Nat) : Nat := endF l i l.length (i + 1)
theorem endF_spec (l : List Nd) (i : Nat) : ∀ f k, k ≤ l.length → l.length ≤ k + f → k ≤ endF l i f k ∧ endF l i f k ≤ l.length ∧ (∀ j : Nat, k ≤ j → j < endF l i f k → (i : Int) ≤ par l j) ∧ (endF l i f k < l.length → par l (endF l i f k) < i)
  | 0, k, h, h2 => ⟨Nat.le_refl _, h, fun j h3 h4 => by unfold endF at h4; omega, fun h3 => by unfold endF at h3; omega⟩
  | f + 1, k, h, h2 => by
    unfold endF
    split
    · rename_i h3
      obtain ⟨a, b, c, d⟩ := endF_spec l i f (k + 1) (by omega) (by omega)
      refine ⟨by omega, b, fun j hj hj2 => ?_, d⟩
      by_cases e : j = k
      · subst e; exact h3.2
      · exact c j (by omega) hj2
    · rename_i h3
      refine ⟨Nat.le_refl _, h, fun j hj hj2 => by omega, fun hk => ?_⟩
      have : ¬ (i : Int) ≤ par l k := fun e => h3 ⟨hk, e⟩
      omega
theorem endN_spec (l : List Nd) (i : Nat) (h : i < l.length) : i < endN l i ∧ endN l i ≤ l.length ∧ (∀ j : Nat, i < j → j < endN l i → (i : Int) ≤ par l j) ∧ (endN l i < l.length → par l (endN l i) < i) := by
  obtain ⟨a, b, c, d⟩ := endF_spec l i l.length (i + 1) (by omega) (by omega)
  exact ⟨a, b, fun j h1 h2 => c j h1 h2, d⟩
/-- is a place in the subtree of q? (the document's way) -/
def belC (l : List Nd) (q : Int) : Nat → Int → Bool
  | 0, _ => false
  | f + 1, p => if p < 0 then false else if p = q then true else belC l q f (par l p.toNat)
def belB (l : List Nd) (i : Nat) (q : Nat) : Bool := belC l q (i + 1) i
theorem belC_at {l : List Nd} {q : Int} (f : Nat) (p : Int) : belC l q (f + 1) p = if p < 0 then false else if p = q then true else belC l q f (par l p.toNat) := rfl
theorem belC_neg {l : List Nd} {q : Int} : ∀ (f : Nat) (p : Int), p < 0 → belC l q f p = false
  | 0, _, _ => rfl
  | f + 1, p, h => by rw [belC_at, if_pos h]
theorem belC_fuel {l : List Nd} {q : Int} {n : Nat} (h : Rng l n) : ∀ (f g : Nat) (p : Int), p < n → p < f → p < g → belC l q f p = belC l q g p
  | 0, g, p, _, hf, _ => by rw [belC_neg g p (by omega)]; rfl
  | f + 1, 0, p, _, _, hg => by rw [belC_neg (f + 1) p (by omega)]; rfl
  | f + 1, g + 1, p, h1, hf, hg => by
    rw [belC_at, belC_at]
    by_cases hp : p < 0
    · rw [if_pos hp, if_pos hp]
    · rw [if_neg hp, if_neg hp]
      by_cases e : p = q
      · rw [if_pos e, if_pos e]
      · rw [if_neg e, if_neg e]
        have := h p.toNat (by omega)
        exact belC_fuel h f g _ (by omega) (by omega) (by omega)
theorem belC_up {l : List Nd} {q : Nat} {n : Nat} (h : Rng l n) (ho : ∀ k, k < n → openB l k = true) : ∀ (f : Nat) (p : Int), p < n → belC l q f p = true → (q : Int) ≤ p ∧ ∀ k : Nat, q < k → (k : Int) ≤ p → (q : Int) ≤ par l k
  | 0, _, _, hc => by cases hc
  | f + 1, p, h1, hc => by
    rw [belC_at] at hc
    by_cases hp : p < 0
    · rw [if_pos hp] at hc; cases hc
    · rw [if_neg hp] at hc
      by_cases e : p = q
      · exact ⟨by omega, fun k h2 h3 => by omega⟩
      · rw [if_neg e] at hc
        have hr := h p.toNat (by omega)
        obtain ⟨a, b⟩ := belC_up h ho f (par l p.toNat) (by omega) hc
        refine ⟨by omega, fun k h2 h3 => ?_⟩
        by_cases h4 : (k : Int) ≤ par l p.toNat
        · exact b k h2 h4
        · by_cases h5 : (k : Int) = p
          · have : p.toNat = k := by omega
            rw [this] at a
            exact a
          · have := between h ho p.toNat p.toNat (by omega) (Nat.le_refl _) k (by omega) (by omega)
            omega
/-- a place is in a subtree just if it stands ahead of that one's end -/
theorem belB_iff {l : List Nd} (h : Rng l l.length) (ho : ∀ k, k < l.length → openB l k = true) (q : Nat) (hq : q < l.length) : ∀ j, j < l.length → (belB l j q = true ↔ q ≤ j ∧ j < endN l q) := by
  obtain ⟨s1, s2, s3, s4⟩ := endN_spec l q hq
  intro j hj
  constructor
  · intro hb
    obtain ⟨a, b⟩ := belC_up h ho _ _ (by omega) hb
    refine ⟨by omega, Classical.byContradiction fun hn => ?_⟩
    have h1 := s4 (by omega)
    have h2 := b (endN l q) s1 (by omega)
    omega
  · induction j using Nat.strongRecOn with
    | ind j ih =>
      rintro ⟨h1, h2⟩
      unfold belB
      rw [belC_at, if_neg (by omega)]
      by_cases e : j = q
      · rw [if_pos (by omega)]
      · rw [if_neg (by omega), Int.toNat_natCast]
        have hr := h j hj
        have h3 := s3 j (by omega) h2
        have h4 := ih (par l j).toNat (by omega) (by omega) ⟨by omega, by omega⟩
        unfold belB at h4
        rw [← h4, show (((par l j).toNat : Nat) : Int) = par l j by omega]
        exact belC_fuel h _ _ _ (by omega) (by omega) (by omega)
/-- the first place from k on that is not in a subtree -/
def endR (l : List Nd) (i : Nat) : Nat → Nat → Nat
  | 0, k => k
  | f + 1, k => if k < l.length ∧ belB l k i = true then endR l i f (k + 1) else k
theorem endR_eq {l : List Nd} (h : Rng l l.length) (ho : ∀ k, k < l.length → openB l k = true) (i : Nat) (hi : i < l.length) : ∀ f k, i < k → k ≤ endN l i → l.length ≤ k + f → endR l i f k = endN l i
  | 0, k, h1, h2, h3 => by
    have := (endN_spec l i hi).2.1
    unfold endR
    omega
  | f + 1, k, h1, h2, h3 => by
    have hs := (endN_spec l i hi).2.1
    unfold endR
    by_cases hk : k < endN l i
    · rw [if_pos ⟨by omega, (belB_iff h ho i hi k (by omega)).2 ⟨by omega, hk⟩⟩]
      exact endR_eq h ho i hi f (k + 1) (by omega) (by omega) (by omega)
    · by_cases hl : k < l.length
      · rw [if_neg (fun e => hk ((belB_iff h ho i hi k hl).1 e.2).2)]
        omega
      · rw [if_neg (fun e => hl e.1)]
        omega
/-- children, or attributes, from a place to another one -/
def kidsL (l : List Nd) (q : Nat) (at' : Bool) (a b : Nat) : List Nat := (List.range' a (b - a)).filter fun j => decide (par l j = q) && ((kin l j == 3) == at')
theorem kidsL_step (l : List Nd) (q : Nat) (at' : Bool) (a k : Nat) (h : a ≤ k) : kidsL l q at' a (k + 1) = kidsL l q at' a k ++ (if (decide (par l k = q) && ((kin l k == 3) == at')) = true then [k] else []) := by
  unfold kidsL
  rw [show k + 1 - a = (k - a) + 1 by omega, List.range'_concat, List.filter_append, show a + 1 * (k - a) = k by omega]
  congr 1
  cases h : (decide (par l k = q) && ((kin l k == 3) == at')) <;> simp [h]
theorem kidsL_le (l : List Nd) (q : Nat) (at' : Bool) (a k : Nat) : (kidsL l q at' a k).length ≤ k - a := by
  unfold kidsL
  refine Nat.le_trans (List.length_filter_le _ _) ?_
  rw [List.length_range']
  exact Nat.le_refl _
theorem kidsL_none (l : List Nd) (q : Nat) (at' : Bool) (a : Nat) : ∀ d, (∀ j, a ≤ j → j < a + d → par l j ≠ q) → kidsL l q at' a (a + d) = []
  | 0, _ => by unfold kidsL; simp
  | d + 1, h => by
    rw [← Nat.add_assoc, kidsL_step _ _ _ _ _ (by omega), kidsL_none l q at' a d (fun j h1 h2 => h j h1 (by omega)), decide_eq_false (h (a + d) (by omega) (by omega))]
    simp
theorem kidsL_split (l : List Nd) (q : Nat) (at' : Bool) (a b c : Nat) (h1 : a ≤ b) (h2 : b ≤ c) : kidsL l q at' a c = kidsL l q at' a b ++ kidsL l q at' b c := by
  unfold kidsL
  rw [show c - a = (b - a) + (c - b) by omega, ← List.range'_append_1, List.filter_append, show a + (b - a) = b by omega]
/-- the document looks through the whole row, the program through the subtree -/
theorem kidsL_eq {l : List Nd} (h : Rng l l.length) (ho : ∀ k, k < l.length → openB l k = true) (i : Nat) (hi : i < l.length) (at' : Bool) : kidsL l i at' 0 l.length = kidsL l i at' (i + 1) (endN l i) := by
  obtain ⟨s1, s2, s3, s4⟩ := endN_spec l i hi
  have e1 : kidsL l i at' 0 (i + 1) = [] := by
    have := kidsL_none l i at' 0 (i + 1) (fun j _ h2 => by have := h j (by omega); omega)
    rwa [Nat.zero_add] at this
  have e2 : kidsL l i at' (endN l i) l.length = [] := by
    have := kidsL_none l i at' (endN l i) (l.length - endN l i) (fun j h1 h2 e => by
      have hr := h j (by omega)
      have : belB l j i = true := by
        unfold belB
        rw [belC_at, if_neg (by omega), if_neg (by omega), Int.toNat_natCast, e]
        obtain ⟨f, hf⟩ : ∃ f, j = f + 1 := ⟨j - 1, by omega⟩
        rw [hf, belC_at, if_neg (by omega), if_pos rfl]
      have := ((belB_iff h ho i hi j (by omega)).1 this).2
      omega)
    rwa [show endN l i + (l.length - endN l i) = l.length by omega] at this
  rw [kidsL_split l i at' 0 (i + 1) l.length (by omega) (by omega), kidsL_split l i at' (i + 1) (endN l i) l.length (by omega) s2, e1, e2]
  simp
/-- ancestors, the nearest first -/
def upC (l : List Nd) : Nat → Int → List Nat
  | 0, _ => []
  | f + 1, p => if p < 0 then [] else p.toNat :: upC l f (par l p.toNat)
def upL (l : List Nd) (i : Nat) : List Nat := upC l i (par l i)
theorem upC_at (l : List Nd) (f : Nat) (p : Int) : upC l (f + 1) p = if p < 0 then [] else p.toNat :: upC l f (par l p.toNat) := rfl
theorem upC_fuel {l : List Nd} {n : Nat} (h : Rng l n) : ∀ (f g : Nat) (p : Int), -1 ≤ p → p < n → p < f → p < g → upC l f p = upC l g p
  | 0, 0, _, _, _, _, _ => rfl
  | 0, g + 1, p, h0, _, hf, _ => by rw [upC_at, if_pos (by omega)]; rfl
  | f + 1, 0, p, h0, _, _, hg => by rw [upC_at, if_pos (by omega)]; rfl
  | f + 1, g + 1, p, h0, h1, hf, hg => by
    rw [upC_at, upC_at]
    by_cases hp : p < 0
    · rw [if_pos hp, if_pos hp]
    · rw [if_neg hp, if_neg hp]
      have := h p.toNat (by omega)
      rw [upC_fuel h f g _ (by omega) (by omega) (by omega) (by omega)]
theorem upC_mem {l : List Nd} {n : Nat} (h : Rng l n) (q : Nat) : ∀ (f : Nat) (p : Int), -1 ≤ p → p < n → p < f → (q ∈ upC l f p ↔ belC l q (f + 1) p = true)
  | 0, p, h0, _, hf => by
    rw [belC_at, if_pos (by omega)]
    simp [upC]
  | f + 1, p, h0, h1, hf => by
    rw [upC_at, belC_at]
    by_cases hp : p < 0
    · rw [if_pos hp, if_pos hp]; simp
    · rw [if_neg hp, if_neg hp, List.mem_cons]
      have hr := h p.toNat (by omega)
      by_cases e : p = q
      · rw [if_pos e]
        simp only [iff_true]
        exact .inl (by omega)
      · rw [if_neg e, ← upC_mem h q f (par l p.toNat) (by omega) (by omega) (by omega)]
        constructor
        · rintro (e2 | h2)
          · omega
          · exact h2
        · exact .inr
/-- what is ahead of a node and no ancestor: told by the list of ancestors -/
theorem upL_mem {l : List Nd} (h : Rng l l.length) (i q : Nat) (hi : i < l.length) (hq : q < i) : (q ∈ upL l i ↔ belB l i q = true) := by
  have hr := h i hi
  unfold upL belB
  rw [belC_at, if_neg (by omega), if_neg (by omega), Int.toNat_natCast, upC_mem h q i (par l i) (by omega) (by omega) (by omega)]
  rw [belC_fuel h (i + 1) i (par l i) (by omega) (by omega) (by omega)]
end Go.Proofs.YtkjodleggfacbaaDoor.Ptr
