/- Plain: what the program's check of trees computes is what the document tells (chapter 06); no program in sight. -/
import Derived.Test.YtkjodleggfacbaaDoorTreePlain
namespace Go.Proofs.YtkjodleggfacbaaDoor.Ptr
open Go

def pgood (l : List Nd) (root : Bool) (i : Nat) : Bool := openB l i && (if (root && i == 0) = true then headB l i else !(root && decide (par l i < 0)) && fitsB l i)
def pallB (l : List Nd) (root : Bool) : Nat → Bool
  | 0 => true
  | i + 1 => pallB l root i && pgood l root i
theorem pgood_good {l : List Nd} {root : Bool} {i : Nat} (h : pgood l root i = true) : good l root i = true := by
  unfold pgood at h
  unfold good
  rw [Bool.and_eq_true] at h ⊢
  refine ⟨h.1, ?_⟩
  have h2 := h.2
  by_cases e : (root && i == 0) = true
  · rw [if_pos e] at h2 ⊢
    exact h2
  · rw [if_neg e, Bool.and_eq_true] at h2
    rw [if_neg e]
    exact h2.2
theorem pallB_allB {l : List Nd} {root : Bool} : ∀ {n : Nat}, pallB l root n = true → allB l root n = true
  | 0, _ => rfl
  | n + 1, h => by
    unfold pallB at h
    rw [Bool.and_eq_true] at h
    unfold allB
    rw [Bool.and_eq_true]
    exact ⟨pallB_allB h.1, pgood_good h.2⟩
theorem pallB_no {l : List Nd} {root : Bool} {i : Nat} (h : pgood l root i = false) : ∀ n, i < n → pallB l root n = false
  | 0, hn => by omega
  | n + 1, hn => by
    unfold pallB
    by_cases e : i = n
    · subst e; rw [h, Bool.and_false]
    · rw [pallB_no h n (by omega), Bool.false_and]
theorem tops_root {l : List Nd} : ∀ {n : Nat}, pallB l true n = true → 0 < n → tops l n = 1
  | 0, _, h => by omega
  | n + 1, h, _ => by
    unfold pallB at h
    rw [Bool.and_eq_true] at h
    have hg := h.2
    unfold pgood at hg
    rw [Bool.and_eq_true] at hg
    unfold tops
    by_cases e : n = 0
    · subst e
      have := open_range (l := l) (i := 0) (fun k hk => by omega) hg.1
      rw [if_pos (by omega)]
      rfl
    · have hg2 := hg.2
      rw [if_neg (by simpa using e), Bool.and_eq_true] at hg2
      rw [tops_root h.1 (by omega), if_neg (by simpa using hg2.1)]
theorem tops_mono (l : List Nd) (n : Nat) : tops l n ≤ tops l (n + 1) := by
  rw [tops]; omega
theorem allB_pallB {l : List Nd} : ∀ {n : Nat}, allB l true n = true → tops l n ≤ 1 → pallB l true n = true
  | 0, _, _ => rfl
  | n + 1, h, ht => by
    unfold allB at h
    rw [Bool.and_eq_true] at h
    have hp := allB_pallB h.1 (Nat.le_trans (tops_mono l n) ht)
    unfold pallB
    rw [hp, Bool.true_and]
    have hg := h.2
    unfold good at hg
    rw [Bool.and_eq_true] at hg
    unfold pgood
    rw [hg.1, Bool.true_and]
    by_cases e : n = 0
    · subst e
      have h2 := hg.2
      rw [if_pos (by simp)] at h2 ⊢
      exact h2
    · have h2 := hg.2
      rw [if_neg (by simpa using e)] at h2 ⊢
      rw [h2, Bool.and_true]
      have h1 := tops_root hp (by omega)
      rw [tops, h1] at ht
      by_cases hq : par l n < 0
      · rw [if_pos hq] at ht; omega
      · rw [decide_eq_false hq]; rfl
theorem pallB_false {l : List Nd} : ∀ {n : Nat}, pallB l false n = allB l false n
  | 0 => rfl
  | n + 1 => by
    unfold pallB allB
    rw [pallB_false]
    congr 1
theorem chk_no {l : List Nd} {root : Bool} (hl : ¬ 16384 < l.length) (h : pallB l root l.length = false) : chk l root = 4 := by
  unfold chk
  rw [if_neg hl]
  cases ha : allB l root l.length with
  | false => rw [if_pos rfl]
  | true =>
    rw [if_neg (by simp)]
    cases root with
    | false => rw [pallB_false, ha] at h; cases h
    | true =>
      rw [if_pos]
      refine ⟨rfl, .inl fun e => ?_⟩
      rw [allB_pallB ha (by omega)] at h
      cases h
theorem chk_yes {l : List Nd} {root : Bool} (hl : ¬ 16384 < l.length) (h : pallB l root l.length = true) : chk l root = if root = true ∧ elems l l.length ≠ 1 then 4 else if 60 < deepest l l.length then 131 else 0 := by
  unfold chk
  rw [if_neg hl, pallB_allB h, if_neg (by simp)]
  cases root with
  | false => simp
  | true =>
    by_cases h0 : l.length = 0
    · have h1 : tops l l.length ≠ 1 := by rw [h0]; simp [tops]
      have h2 : elems l l.length ≠ 1 := by rw [h0]; simp [elems]
      rw [if_pos ⟨rfl, .inl h1⟩, if_pos ⟨rfl, h2⟩]
    · have h1 := tops_root h (by omega)
      by_cases h2 : elems l l.length = 1
      · rw [if_neg (fun hc => hc.2.elim (fun h => h h1) (fun h => h h2)), if_neg (c := true = true ∧ elems l l.length ≠ 1) (fun hc => hc.2 h2)]
      · rw [if_pos ⟨rfl, .inr h2⟩, if_pos ⟨rfl, h2⟩]
theorem elems_at (l : List Nd) (i : Nat) : elems l (i + 1) = elems l i + if kin l i = 2 ∧ par l i = 0 then 1 else 0 := rfl
theorem elems_le' (l : List Nd) : ∀ i, elems l i ≤ i
  | 0 => Nat.le_refl _
  | i + 1 => by
    have := elems_le' l i
    rw [elems_at]
    split <;> omega
theorem dep_le (l : List Nd) : ∀ f i, dep l f i ≤ f
  | 0, _ => Nat.le_refl _
  | f + 1, i => by
    unfold dep
    have := dep_le l f (par l i).toNat
    split <;> split <;> omega
theorem depN_le (l : List Nd) (i : Nat) : depN l i ≤ i + 1 := dep_le l (i + 1) i
theorem deepest_at (l : List Nd) (i : Nat) : deepest l (i + 1) = if kin l i = 2 then max (deepest l i) (depN l i) else deepest l i := rfl
theorem deepest_le (l : List Nd) : ∀ i, deepest l i ≤ i
  | 0 => Nat.le_refl _
  | i + 1 => by
    have := deepest_le l i
    have := depN_le l i
    rw [deepest_at]
    split <;> omega
/-- behind a node that is right: how deep it is -/
theorem depN_up {l : List Nd} {i : Nat} (h : Rng l (i + 1)) : depN l i = (if kin l i = 2 then 1 else 0) + (if par l i < 0 then 0 else depN l (par l i).toNat) := depN_step h i (by omega)
end Go.Proofs.YtkjodleggfacbaaDoor.Ptr
