/- Plain: trees as rows of nodes (chapter 06): what a right tree is; no program in sight. -/
import Derived.Test.YtlemdhfekdiaeaaGreatDoorCharsPlain
import Derived.Lib.Strings
namespace Go.Proofs.YtlemdhfekdiaeaaGreatDoor.Ptr
open Go

/-- a node: its kind, name, value, parent -/
abbrev Nd := Nat × List UInt8 × List UInt8 × Int
def nd0 : Nd := (0, [], [], -1)
def kin (l : List Nd) (i : Nat) : Nat := (l.getD i nd0).1
def nam (l : List Nd) (i : Nat) : List UInt8 := (l.getD i nd0).2.1
def val (l : List Nd) (i : Nat) : List UInt8 := (l.getD i nd0).2.2.1
def par (l : List Nd) (i : Nat) : Int := (l.getD i nd0).2.2.2
/-- does the way up from a place come to q? -/
def chain (l : List Nd) (q : Int) : Nat → Int → Bool
  | 0, _ => false
  | f + 1, p => if p = q then true else if p < 0 then false else chain l q f (par l p.toNat)
def openB (l : List Nd) (i : Nat) : Bool := chain l (par l i) (i + 1) ((i : Int) - 1)
/-- the last place ahead of i whose parent is q and that is no attribute -/
def lastC (l : List Nd) (q : Int) : Nat → Int
  | 0 => -1
  | i + 1 => if par l i = q ∧ kin l i ≠ 3 then (i : Int) else lastC l q i
/-- how many elements deep -/
def dep (l : List Nd) : Nat → Nat → Nat
  | 0, _ => 0
  | f + 1, i => (if kin l i = 2 then 1 else 0) + (if par l i < 0 then 0 else dep l f (par l i).toNat)
def depN (l : List Nd) (i : Nat) : Nat := dep l (i + 1) i
def insideB (l : List Nd) (q : Int) : Bool := decide (q < 0) || kin l q.toNat == 1 || kin l q.toNat == 2
def underB (l : List Nd) (q : Int) : Bool := decide (q < 0) || kin l q.toNat == 2
def elemB (l : List Nd) (q : Int) : Bool := !decide (q < 0) && kin l q.toNat == 2
/-- no node from a to i (it left out) bears the name x -/
def freeB (l : List Nd) (x : List UInt8) (a : Nat) : Nat → Bool
  | 0 => true
  | i + 1 => (decide (i < a) || !decide (nam l i = x)) && freeB l x a i
def isXml (s : List UInt8) : Bool := match s with
  | [a, b, c] => (a == 120 || a == 88) && (b == 109 || b == 77) && (c == 108 || c == 76)
  | _ => false
def noBlank (s : List UInt8) : Bool := match s with
  | [] => true
  | c :: _ => !Pch.blankC c
def has2 (a b : UInt8) : List UInt8 → Bool
  | [] => false
  | [_] => false
  | x :: y :: r => (x == a && y == b) || has2 a b (y :: r)
def fitsK (l : List Nd) (i : Nat) : Bool :=
  if kin l i = 2 then insideB l (par l i) && Pch.nameL (nam l i) && decide (val l i = [])
  else if kin l i = 3 then elemB l (par l i) && Pch.nameL (nam l i) && decide (lastC l (par l i) i < 0) && freeB l (nam l i) ((par l i).toNat + 1) i
  else if kin l i = 4 then underB l (par l i) && decide (nam l i = []) && !decide (val l i = []) && (decide (lastC l (par l i) i < 0) || !decide (kin l (lastC l (par l i) i).toNat = 4))
  else if kin l i = 5 then insideB l (par l i) && decide (nam l i = []) && !has2 45 45 (val l i) && !decide ((val l i).getLast? = some 45)
  else if kin l i = 6 then insideB l (par l i) && Pch.nameL (nam l i) && !isXml (nam l i) && !has2 63 62 (val l i) && noBlank (val l i)
  else false
def fitsB (l : List Nd) (i : Nat) : Bool := Pch.textsL (val l i) && decide ((val l i).length ≤ 65536) && fitsK l i
def headB (l : List Nd) (i : Nat) : Bool := decide (kin l i = 1) && decide (nam l i = []) && decide (val l i = [])
def good (l : List Nd) (root : Bool) (i : Nat) : Bool := openB l i && (if (root && i == 0) = true then headB l i else fitsB l i)
/-- how many nodes ahead of i have no parent -/
def tops (l : List Nd) : Nat → Nat
  | 0 => 0
  | i + 1 => tops l i + if par l i < 0 then 1 else 0
def elems (l : List Nd) : Nat → Nat
  | 0 => 0
  | i + 1 => elems l i + if kin l i = 2 ∧ par l i = 0 then 1 else 0
/-- the deepest element ahead of i -/
def deepest (l : List Nd) : Nat → Nat
  | 0 => 0
  | i + 1 => if kin l i = 2 then max (deepest l i) (depN l i) else deepest l i
def allB (l : List Nd) (root : Bool) : Nat → Bool
  | 0 => true
  | i + 1 => allB l root i && good l root i
/-- a tree (root) or a fragment: 0, or what is wrong -/
def chk (l : List Nd) (root : Bool) : Nat :=
  if 16384 < l.length then 3
  else if allB l root l.length = false then 4
  else if root = true ∧ (tops l l.length ≠ 1 ∨ elems l l.length ≠ 1) then 4
  else if 60 < deepest l l.length then 131
  else 0

/-! ### ahead of a place all is in order -/
def Rng (l : List Nd) (n : Nat) : Prop := ∀ k, k < n → -1 ≤ par l k ∧ par l k < k
theorem chain_range {l : List Nd} {q : Int} {n : Nat} (h : Rng l n) : ∀ (f : Nat) (p : Int), -1 ≤ p → p < n → chain l q f p = true → -1 ≤ q ∧ q ≤ p
  | 0, _, _, _, hc => by cases hc
  | f + 1, p, h0, h1, hc => by
    unfold chain at hc
    split at hc
    · omega
    · split at hc
      · cases hc
      · have := h p.toNat (by omega)
        have := chain_range h f (par l p.toNat) (by omega) (by omega) hc
        omega
theorem open_range {l : List Nd} {i : Nat} (h : Rng l i) (ho : openB l i = true) : -1 ≤ par l i ∧ par l i < i := by
  have := chain_range h (i + 1) ((i : Int) - 1) (by omega) (by omega) ho
  omega
theorem Rng.succ {l : List Nd} {i : Nat} (h : Rng l i) (ho : openB l i = true) : Rng l (i + 1) := fun k hk => by
  by_cases e : k = i
  · subst e; exact open_range h ho
  · exact h k (by omega)
theorem good_open {l : List Nd} {root : Bool} {i : Nat} (h : good l root i = true) : openB l i = true := by
  unfold good at h
  rw [Bool.and_eq_true] at h
  exact h.1
theorem allB_good {l : List Nd} {root : Bool} : ∀ {n : Nat}, allB l root n = true → ∀ k, k < n → good l root k = true
  | 0, _, k, hk => by omega
  | n + 1, h, k, hk => by
    unfold allB at h
    rw [Bool.and_eq_true] at h
    by_cases e : k = n
    · subst e; exact h.2
    · exact allB_good h.1 k (by omega)
theorem allB_rng {l : List Nd} {root : Bool} : ∀ {n : Nat}, allB l root n = true → Rng l n
  | 0, _ => fun k hk => by omega
  | n + 1, h => by
    unfold allB at h
    rw [Bool.and_eq_true] at h
    exact (allB_rng h.1).succ (good_open h.2)
theorem chain_fuel {l : List Nd} {q : Int} {n : Nat} (h : Rng l n) : ∀ (f g : Nat) (p : Int), -1 ≤ p → p < n → p + 1 < f → p + 1 < g → chain l q f p = chain l q g p
  | 0, _, _, _, _, hf, _ => by omega
  | _ + 1, 0, _, _, _, _, hg => by omega
  | f + 1, g + 1, p, h0, h1, hf, hg => by
    unfold chain
    split
    · rfl
    · split
      · rfl
      · have := h p.toNat (by omega)
        exact chain_fuel h f g _ (by omega) (by omega) (by omega) (by omega)
theorem dep_fuel {l : List Nd} {n : Nat} (h : Rng l n) : ∀ (f g i : Nat), i < n → i < f → i < g → dep l f i = dep l g i
  | 0, _, _, _, hf, _ => by omega
  | _ + 1, 0, _, _, _, hg => by omega
  | f + 1, g + 1, i, hn, hf, hg => by
    have := h i hn
    unfold dep
    by_cases hp : par l i < 0
    · rw [if_pos hp, if_pos hp]
    · rw [if_neg hp, if_neg hp, dep_fuel h f g (par l i).toNat (by omega) (by omega) (by omega)]
theorem depN_step {l : List Nd} {n : Nat} (h : Rng l n) (i : Nat) (hn : i < n) : depN l i = (if kin l i = 2 then 1 else 0) + (if par l i < 0 then 0 else depN l (par l i).toNat) := by
  have := h i hn
  unfold depN
  rw [dep]
  by_cases hp : par l i < 0
  · rw [if_pos hp, if_pos hp]
  · rw [if_neg hp, if_neg hp, dep_fuel h i ((par l i).toNat + 1) (par l i).toNat (by omega) (by omega) (by omega)]
theorem lastC_lt (l : List Nd) (q : Int) : ∀ n : Nat, -1 ≤ lastC l q n ∧ lastC l q n < n
  | 0 => by simp [lastC]
  | n + 1 => by
    have := lastC_lt l q n
    unfold lastC
    split <;> omega
theorem lastC_step (l : List Nd) (q : Int) (i : Nat) : lastC l q (i + 1) = if par l i = q ∧ kin l i ≠ 3 then (i : Int) else lastC l q i := rfl
/-- below a place there is none whose parent it is -/
theorem lastC_low {l : List Nd} {n : Nat} (h : Rng l n) (q : Int) : ∀ k : Nat, k ≤ n → (k : Int) ≤ q + 1 → lastC l q k = -1
  | 0, _, _ => rfl
  | k + 1, hk, hq => by
    have := h k (by omega)
    unfold lastC
    rw [if_neg (by omega)]
    exact lastC_low h q k (by omega) (by omega)
theorem freeB_step (l : List Nd) (x : List UInt8) (a i : Nat) : freeB l x a (i + 1) = ((decide (i < a) || !decide (nam l i = x)) && freeB l x a i) := rfl
theorem freeB_low (l : List Nd) (x : List UInt8) (a : Nat) : ∀ i, i ≤ a → freeB l x a i = true
  | 0, _ => rfl
  | i + 1, h => by
    rw [freeB_step, decide_eq_true (by omega), freeB_low l x a i (by omega)]
    rfl
theorem freeB_no {l : List Nd} {x : List UInt8} {a k : Nat} (hk : a ≤ k) (hx : nam l k = x) : ∀ i, k < i → freeB l x a i = false
  | 0, h => by omega
  | i + 1, h => by
    rw [freeB_step]
    by_cases e : k = i
    · subst e
      rw [decide_eq_false (by omega), decide_eq_true hx]
      rfl
    · rw [freeB_no hk hx i (by omega), Bool.and_false]
theorem chain_at {l : List Nd} {q : Int} (f : Nat) (p : Int) : chain l q (f + 1) p = if p = q then true else if p < 0 then false else chain l q f (par l p.toNat) := rfl
/-- what stands between a node and a place that is open there lies below it -/
theorem between {l : List Nd} {n : Nat} (h : Rng l n) (ho : ∀ k, k < n → openB l k = true) : ∀ (m x : Nat), x < n → x ≤ m → ∀ k : Nat, par l x < k → k < x → par l x ≤ par l k := by
  intro m
  induction m with
  | zero => intro x _ hx k _ hk; omega
  | succ m ih =>
    intro x hxn hxm k hk1 hk2
    have key : ∀ (f : Nat) (p : Int), p < x → chain l (par l x) f p = true → ∀ k : Nat, par l x < k → (k : Int) ≤ p → par l x ≤ par l k := by
      intro f
      induction f with
      | zero => intro p _ hc; cases hc
      | succ f ihf =>
        intro p hpx hc k hk1 hk2
        rw [chain_at] at hc
        by_cases e : p = par l x
        · omega
        · rw [if_neg e] at hc
          by_cases hp : p < 0
          · rw [if_pos hp] at hc; cases hc
          · rw [if_neg hp] at hc
            have hr := h p.toNat (by omega)
            by_cases hkp : (k : Int) = p
            · have hq := chain_range h f (par l p.toNat) (by omega) (by omega) hc
              have : p.toNat = k := by omega
              rw [this] at hq
              omega
            · by_cases hkq : (k : Int) ≤ par l p.toNat
              · exact ihf (par l p.toNat) (by omega) hc k hk1 hkq
              · have h1 := ih p.toNat (by omega) (by omega) k (by omega) (by omega)
                have h2 := chain_range h f (par l p.toNat) (by omega) (by omega) hc
                omega
    exact key _ _ (by omega) (ho x hxn) k hk1 (by omega)
theorem fits_parent {l : List Nd} {k : Nat} (h : fitsB l k = true) : par l k < 0 ∨ kin l (par l k).toNat = 1 ∨ kin l (par l k).toNat = 2 := by
  unfold fitsB at h
  rw [Bool.and_eq_true] at h
  have h := h.2
  unfold fitsK insideB elemB underB at h
  split at h
  · simp only [Bool.and_eq_true, Bool.or_eq_true, decide_eq_true_eq, beq_iff_eq] at h
    omega
  · split at h
    · simp only [Bool.and_eq_true, Bool.not_eq_true', decide_eq_false_iff_not, beq_iff_eq] at h
      omega
    · split at h
      · simp only [Bool.and_eq_true, Bool.or_eq_true, decide_eq_true_eq, beq_iff_eq] at h
        omega
      · split at h
        · simp only [Bool.and_eq_true, Bool.or_eq_true, decide_eq_true_eq, beq_iff_eq] at h
          omega
        · split at h
          · simp only [Bool.and_eq_true, Bool.or_eq_true, decide_eq_true_eq, beq_iff_eq] at h
            omega
          · cases h
theorem good_parent {l : List Nd} {root : Bool} {k : Nat} (hr : Rng l k) (h : good l root k = true) : par l k < 0 ∨ kin l (par l k).toNat = 1 ∨ kin l (par l k).toNat = 2 := by
  have ho := open_range hr (good_open h)
  unfold good at h
  rw [Bool.and_eq_true] at h
  have h := h.2
  split at h
  · rename_i e
    simp only [Bool.and_eq_true, beq_iff_eq] at e
    omega
  · exact fits_parent h
/-- are all nodes from a to i (it left out) attributes of q by other names than x? -/
def attrsB (l : List Nd) (q : Int) (x : List UInt8) (a : Nat) : Nat → Bool
  | 0 => true
  | i + 1 => (decide (i < a) || (decide (par l i = q) && kin l i == 3 && !decide (nam l i = x))) && attrsB l q x a i
theorem attrsB_iff (l : List Nd) (q : Int) (x : List UInt8) (a : Nat) : ∀ i, attrsB l q x a i = true ↔ ∀ k, a ≤ k → k < i → par l k = q ∧ kin l k = 3 ∧ nam l k ≠ x
  | 0 => by simp [attrsB]
  | i + 1 => by
    unfold attrsB
    rw [Bool.and_eq_true, attrsB_iff l q x a i, Bool.or_eq_true, decide_eq_true_eq]
    simp only [Bool.and_eq_true, decide_eq_true_eq, beq_iff_eq, Bool.not_eq_true', decide_eq_false_iff_not]
    constructor
    · rintro ⟨h1, h2⟩ k hk hki
      by_cases e : k = i
      · subst e
        rcases h1 with h1 | h1
        · omega
        · exact ⟨h1.1.1, h1.1.2, h1.2⟩
      · exact h2 k hk (by omega)
    · intro h
      refine ⟨?_, fun k hk hki => h k hk (by omega)⟩
      by_cases e : i < a
      · exact .inl e
      · have := h i (by omega) (by omega)
        exact .inr ⟨⟨this.1, this.2.1⟩, this.2.2⟩
theorem freeB_iff (l : List Nd) (x : List UInt8) (a : Nat) : ∀ i, freeB l x a i = true ↔ ∀ k, a ≤ k → k < i → nam l k ≠ x
  | 0 => by simp [freeB]
  | i + 1 => by
    rw [freeB_step, Bool.and_eq_true, freeB_iff l x a i, Bool.or_eq_true, decide_eq_true_eq, Bool.not_eq_true', decide_eq_false_iff_not]
    constructor
    · rintro ⟨h1, h2⟩ k hk hki
      by_cases e : k = i
      · subst e
        rcases h1 with h1 | h1
        · omega
        · exact h1
      · exact h2 k hk (by omega)
    · intro h
      refine ⟨?_, fun k hk hki => h k hk (by omega)⟩
      by_cases e : i < a
      · exact .inl e
      · exact .inr (h i (by omega) (by omega))
theorem lastC_neg (l : List Nd) (q : Int) : ∀ i, lastC l q i < 0 ↔ ∀ k, k < i → par l k = q → kin l k = 3
  | 0 => by simp [lastC]
  | i + 1 => by
    unfold lastC
    constructor
    · intro h k hk hq
      by_cases e : par l i = q ∧ kin l i ≠ 3
      · rw [if_pos e] at h; omega
      · rw [if_neg e, lastC_neg l q i] at h
        by_cases e2 : k = i
        · subst e2
          exact Classical.byContradiction fun hc => e ⟨hq, hc⟩
        · exact h k (by omega) hq
    · intro h
      rw [if_neg (fun e => e.2 (h i (by omega) e.1)), lastC_neg l q i]
      exact fun k hk hq => h k (by omega) hq
/-- the document's way to tell an attribute's place is the program's -/
theorem attrs_eq {l : List Nd} {root : Bool} {i : Nat} (ha : allB l root i = true) (ho : openB l i = true) (h0 : 0 ≤ par l i) (x : List UInt8) :
    attrsB l (par l i) x ((par l i).toNat + 1) i = (decide (lastC l (par l i) i < 0) && freeB l x ((par l i).toNat + 1) i) := by
  have hr := allB_rng ha
  have hor : ∀ k, k < i + 1 → openB l k = true := fun k hk => by
    by_cases e : k = i
    · subst e; exact ho
    · exact good_open (allB_good ha k (by omega))
  have hr1 := hr.succ ho
  have hpi := open_range hr ho
  rw [Bool.eq_iff_iff, Bool.and_eq_true, decide_eq_true_eq, attrsB_iff, freeB_iff, lastC_neg]
  constructor
  · intro h
    refine ⟨fun k hk hq => ?_, fun k hk hki => (h k hk hki).2.2⟩
    have := hr k hk
    exact (h k (by omega) hk).2.1
  · rintro ⟨h1, h2⟩ k hk hki
    have hpk : par l k = par l i := by
      induction k using Nat.strongRecOn with
      | ind k ih =>
        have hb := between hr1 hor i i (by omega) (Nat.le_refl _) k (by omega) hki
        apply Classical.byContradiction
        intro hne
        have hrk := hr k hki
        have hm := ih (par l k).toNat (by omega) (by omega) (by omega)
        have h3 := h1 (par l k).toNat (by omega) hm
        rcases good_parent (fun j hj => hr j (by omega)) (allB_good ha k hki) with h4 | h4 | h4 <;> omega
    exact ⟨hpk, h1 k hki hpk, h2 k hk hki⟩
end Go.Proofs.YtlemdhfekdiaeaaGreatDoor.Ptr
