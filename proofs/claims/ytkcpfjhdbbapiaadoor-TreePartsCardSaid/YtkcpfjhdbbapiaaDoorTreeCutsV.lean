/- Plain: the part of a right tree is a right fragment; children's parts make the whole (chapter 06). Plain: the parts of a node's attributes and children make its own; their texts its text (chapter 06). The walk over the statement TreeCuts (chapter 06). The walk over the statement TreeCuts at a node that is no attribute (chapter 06). -/
import Derived.Test.YtkcpfjhdbbapiaaDoorTreePart
import Derived.Test.YtkcpfjhdbbapiaaDoorTreeGoC
import Derived.Test.YtkcpfjhdbbapiaaDoorTreeAwake
import Derived.Deep.DeepCutAuto
import Derived.Laws.AppendOwnNone
import Derived.BigQuiet
namespace Go.Proofs.YtkcpfjhdbbapiaaDoor.Wtr
open Go Go.Proofs.YtkcpfjhdbbapiaaDoor.Kb

section part
variable {l : List Ptr.Nd} {k : Nat}
theorem pn_get (j : Nat) (h : j < Ptr.endN l k - k) : (partN l k).getD j Ptr.nd0 = (Ptr.kin l (k + j), Ptr.nam l (k + j), Ptr.val l (k + j), if j = 0 then -1 else Ptr.par l (k + j) - k) := by
  rw [List.getD_eq_getElem?_getD, partN_get l k j h]; rfl
theorem pn_kin (j : Nat) (h : j < Ptr.endN l k - k) : Ptr.kin (partN l k) j = Ptr.kin l (k + j) := by
  show ((partN l k).getD j Ptr.nd0).1 = _
  rw [pn_get j h]
theorem pn_nam (j : Nat) (h : j < Ptr.endN l k - k) : Ptr.nam (partN l k) j = Ptr.nam l (k + j) := by
  show ((partN l k).getD j Ptr.nd0).2.1 = _
  rw [pn_get j h]
theorem pn_val (j : Nat) (h : j < Ptr.endN l k - k) : Ptr.val (partN l k) j = Ptr.val l (k + j) := by
  show ((partN l k).getD j Ptr.nd0).2.2.1 = _
  rw [pn_get j h]
theorem pn_par0 (h : 0 < Ptr.endN l k - k) : Ptr.par (partN l k) 0 = -1 := by
  show ((partN l k).getD 0 Ptr.nd0).2.2.2 = _
  rw [pn_get 0 h]; rfl
theorem pn_par (j : Nat) (h : j < Ptr.endN l k - k) (h0 : 0 < j) : Ptr.par (partN l k) j = Ptr.par l (k + j) - k := by
  show ((partN l k).getD j Ptr.nd0).2.2.2 = _
  rw [pn_get j h]
  exact if_neg (by omega)
end part

/-- what is told of a right tree and a place in it -/
structure Rt (l : List Ptr.Nd) (root : Bool) (k : Nat) : Prop where
  all : Ptr.allB l root l.length = true
  lt : k < l.length
namespace Rt
variable {l : List Ptr.Nd} {root : Bool} {k : Nat}
theorem rng (h : Rt l root k) : Ptr.Rng l l.length := Ptr.allB_rng h.all
theorem opn (h : Rt l root k) : ∀ i, i < l.length → Ptr.openB l i = true := fun i hi => Ptr.good_open (Ptr.allB_good h.all i hi)
theorem spec (h : Rt l root k) : k < Ptr.endN l k ∧ Ptr.endN l k ≤ l.length ∧ (∀ j : Nat, k < j → j < Ptr.endN l k → (k : Int) ≤ Ptr.par l j) ∧ (Ptr.endN l k < l.length → Ptr.par l (Ptr.endN l k) < k) := Ptr.endN_spec l k h.lt
theorem up (h : Rt l root k) (i : Nat) (hi : i < l.length) : Ptr.par l i < 0 ∨ Ptr.kin l (Ptr.par l i).toNat = 1 ∨ Ptr.kin l (Ptr.par l i).toNat = 2 :=
  Ptr.good_parent (fun j hj => h.rng j (by omega)) (Ptr.allB_good h.all i hi)
/-- what is no element and no root has nothing below it -/
theorem lone (h : Rt l root k) (h1 : Ptr.kin l k ≠ 1) (h2 : Ptr.kin l k ≠ 2) : Ptr.endN l k = k + 1 := by
  obtain ⟨a, b, c, _⟩ := h.spec
  apply Classical.byContradiction
  intro hn
  have h3 := c (k + 1) (by omega) (by omega)
  have h4 := h.rng (k + 1) (by omega)
  have h5 : Ptr.par l (k + 1) = k := by omega
  have h6 := h.up (k + 1) (by omega)
  rw [h5, Int.toNat_natCast] at h6
  omega
theorem prng (h : Rt l root k) : Ptr.Rng (partN l k) (Ptr.endN l k - k) := fun j hj => by
  obtain ⟨a, b, c, _⟩ := h.spec
  by_cases e : j = 0
  · subst e; rw [pn_par0 hj]; omega
  · rw [pn_par j hj (by omega)]
    have h3 := c (k + j) (by omega) (by omega)
    have h4 := h.rng (k + j) (by omega)
    omega
theorem pchain (h : Rt l root k) (q : Int) (hq : 0 ≤ q) : ∀ (f : Nat) (p : Int), 0 ≤ p → p < (Ptr.endN l k - k : Nat) → Ptr.chain l (q + k) f (p + k) = true → Ptr.chain (partN l k) q f p = true
  | 0, _, _, _, hc => by cases hc
  | f + 1, p, h0, h1, hc => by
    obtain ⟨a, b, c, _⟩ := h.spec
    rw [Ptr.chain_at] at hc ⊢
    by_cases e : p = q
    · rw [if_pos e]
    · rw [if_neg (by omega), if_neg (by omega)] at hc
      rw [if_neg e, if_neg (by omega)]
      have e2 : (p + k).toNat = k + p.toNat := by omega
      rw [e2] at hc
      have h4 := h.rng (k + p.toNat) (by omega)
      have h5 := Ptr.chain_range h.rng f _ h4.1 (by omega) hc
      have h6 : 0 < p.toNat := by
        apply Classical.byContradiction
        intro hn
        have : p.toNat = 0 := by omega
        rw [this] at h4 h5
        omega
      rw [pn_par p.toNat (by omega) h6]
      refine h.pchain q hq f _ (by omega) (by omega) ?_
      rw [show Ptr.par l (k + p.toNat) - (k : Int) + k = Ptr.par l (k + p.toNat) by omega]
      exact hc
theorem popen (h : Rt l root k) (j : Nat) (hj : j < Ptr.endN l k - k) : Ptr.openB (partN l k) j = true := by
  obtain ⟨a, b, c, _⟩ := h.spec
  unfold Ptr.openB
  by_cases e : j = 0
  · subst e
    rw [pn_par0 hj, Ptr.chain_at, if_pos (by omega)]
  · have ho := h.opn (k + j) (by omega)
    unfold Ptr.openB at ho
    have h3 := c (k + j) (by omega) (by omega)
    have h4 := h.rng (k + j) (by omega)
    rw [pn_par j hj (by omega)]
    rw [Ptr.chain_fuel h.prng (j + 1) (k + j + 1) ((j : Int) - 1) (by omega) (by omega) (by omega) (by omega)]
    refine h.pchain _ (by omega) _ _ (by omega) (by omega) ?_
    rw [show Ptr.par l (k + j) - (k : Int) + k = Ptr.par l (k + j) by omega, show ((j : Int) - 1 + k) = ((k + j : Nat) : Int) - 1 by omega]
    exact ho
theorem plast (h : Rt l root k) (q : Int) (hq : 0 ≤ q) : ∀ j, 1 ≤ j → j ≤ Ptr.endN l k - k → (Ptr.lastC (partN l k) q j = -1 ∧ Ptr.lastC l (q + k) (k + j) = -1) ∨ (0 ≤ Ptr.lastC (partN l k) q j ∧ Ptr.lastC l (q + k) (k + j) = Ptr.lastC (partN l k) q j + k)
  | 0, h1, _ => by omega
  | 1, _, h2 => by
    have hs := h.spec
    refine .inl ⟨?_, Ptr.lastC_low h.rng _ _ (by omega) (by omega)⟩
    rw [Ptr.lastC_step, if_neg (fun e => by rw [pn_par0 (by omega)] at e; omega)]
    rfl
  | j + 2, _, h2 => by
    have ih := h.plast q hq (j + 1) (by omega) (by omega)
    rw [show k + (j + 2) = (k + (j + 1)) + 1 by omega, Ptr.lastC_step l (q + k) (k + (j + 1)), Ptr.lastC_step (partN l k) q (j + 1), pn_par (j + 1) (by omega) (by omega), pn_kin (j + 1) (by omega)]
    by_cases e : Ptr.par l (k + (j + 1)) = q + k ∧ Ptr.kin l (k + (j + 1)) ≠ 3
    · rw [if_pos e, if_pos ⟨by omega, e.2⟩]
      right
      omega
    · rw [if_neg e, if_neg (fun e2 => e ⟨by omega, e2.2⟩)]
      exact ih
theorem pinside (h : Rt l root k) (j : Nat) (hj : j < Ptr.endN l k - k) (h0 : 0 < j) : Ptr.insideB (partN l k) (Ptr.par (partN l k) j) = Ptr.insideB l (Ptr.par l (k + j)) ∧ Ptr.underB (partN l k) (Ptr.par (partN l k) j) = Ptr.underB l (Ptr.par l (k + j)) ∧ Ptr.elemB (partN l k) (Ptr.par (partN l k) j) = Ptr.elemB l (Ptr.par l (k + j)) := by
  obtain ⟨a, b, c, _⟩ := h.spec
  have h3 := c (k + j) (by omega) (by omega)
  have h4 := h.rng (k + j) (by omega)
  have e : Ptr.kin (partN l k) (Ptr.par l (k + j) - k).toNat = Ptr.kin l (Ptr.par l (k + j)).toNat := by
    rw [pn_kin _ (by omega)]
    congr 1
    omega
  unfold Ptr.insideB Ptr.underB Ptr.elemB
  rw [pn_par j hj h0, e, decide_eq_false (show ¬ Ptr.par l (k + j) - (k : Int) < 0 by omega), decide_eq_false (show ¬ Ptr.par l (k + j) < 0 by omega)]
  exact ⟨rfl, rfl, rfl⟩
theorem fits (h : Rt l root k) (i : Nat) (hi : i < l.length) (h0 : 0 < i) : Ptr.fitsB l i = true := by
  have hg := Ptr.allB_good h.all i hi
  unfold Ptr.good at hg
  rw [Bool.and_eq_true] at hg
  have h2 := hg.2
  rw [if_neg (by simp; omega)] at h2
  exact h2
theorem pfits (h : Rt l root k) (hk : 0 < k) (h3 : Ptr.kin l k ≠ 3) (j : Nat) (hj : j < Ptr.endN l k - k) : Ptr.fitsB (partN l k) j = true := by
  obtain ⟨s1, s2, s3, _⟩ := h.spec
  have hf := h.fits (k + j) (by omega) (by omega)
  unfold Ptr.fitsB at hf ⊢
  rw [Bool.and_eq_true] at hf ⊢
  rw [pn_val j hj]
  refine ⟨hf.1, ?_⟩
  have hf := hf.2
  unfold Ptr.fitsK at hf ⊢
  rw [pn_kin j hj, pn_nam j hj, pn_val j hj]
  by_cases e : j = 0
  · subst e
    rw [Nat.add_zero] at hf ⊢
    rw [pn_par0 hj]
    have i1 : Ptr.insideB (partN l k) (-1) = true := rfl
    have i2 : Ptr.underB (partN l k) (-1) = true := rfl
    have i3 : Ptr.lastC (partN l k) (-1) 0 = -1 := rfl
    rw [i1, i2, i3]
    by_cases c2 : Ptr.kin l k = 2
    · rw [if_pos c2] at hf ⊢
      simp only [Bool.and_eq_true] at hf ⊢
      exact ⟨⟨trivial, hf.1.2⟩, hf.2⟩
    · rw [if_neg c2, if_neg h3] at hf ⊢
      by_cases c4 : Ptr.kin l k = 4
      · rw [if_pos c4] at hf ⊢
        simp only [Bool.and_eq_true] at hf ⊢
        exact ⟨⟨⟨trivial, hf.1.1.2⟩, hf.1.2⟩, rfl⟩
      · rw [if_neg c4] at hf ⊢
        by_cases c5 : Ptr.kin l k = 5
        · rw [if_pos c5] at hf ⊢
          simp only [Bool.and_eq_true] at hf ⊢
          exact ⟨⟨⟨trivial, hf.1.1.2⟩, hf.1.2⟩, hf.2⟩
        · rw [if_neg c5] at hf ⊢
          by_cases c6 : Ptr.kin l k = 6
          · rw [if_pos c6] at hf ⊢
            simp only [Bool.and_eq_true] at hf ⊢
            exact ⟨⟨⟨⟨trivial, hf.1.1.1.2⟩, hf.1.1.2⟩, hf.1.2⟩, hf.2⟩
          · rw [if_neg c6] at hf
            cases hf
  · obtain ⟨e1, e2, e4⟩ := h.pinside j hj (by omega)
    have hp := s3 (k + j) (by omega) (by omega)
    have hr := h.rng (k + j) (by omega)
    rw [e1, e2, e4]
    by_cases c2 : Ptr.kin l (k + j) = 2
    · rw [if_pos c2] at hf ⊢
      exact hf
    · rw [if_neg c2] at hf ⊢
      have hpl := h.plast (Ptr.par l (k + j) - k) (by omega) j (by omega) (by omega)
      rw [show Ptr.par l (k + j) - (k : Int) + k = Ptr.par l (k + j) by omega] at hpl
      by_cases c3 : Ptr.kin l (k + j) = 3
      · rw [if_pos c3] at hf ⊢
        simp only [Bool.and_eq_true, decide_eq_true_eq] at hf ⊢
        refine ⟨⟨hf.1.1, ?_⟩, ?_⟩
        · rw [pn_par j hj (by omega)]
          have := hf.1.2
          omega
        · have hfr := hf.2
          rw [Ptr.freeB_iff] at hfr ⊢
          intro i hi1 hi2
          rw [pn_par j hj (by omega)] at hi1
          rw [pn_nam i (by omega)]
          exact hfr (k + i) (by omega) (by omega)
      · rw [if_neg c3] at hf ⊢
        by_cases c4 : Ptr.kin l (k + j) = 4
        · rw [if_pos c4] at hf ⊢
          rw [Bool.and_eq_true] at hf ⊢
          refine ⟨hf.1, ?_⟩
          rw [pn_par j hj (by omega)]
          have hf := hf.2
          rcases hpl with ⟨a, b⟩ | ⟨a, b⟩
          · rw [a]; rfl
          · rw [b] at hf
            rw [Bool.or_eq_true, decide_eq_true_eq] at hf ⊢
            rcases hf with hf | hf
            · omega
            · right
              have hlt := Ptr.lastC_lt (partN l k) (Ptr.par l (k + j) - k) j
              rw [pn_kin _ (by omega)]
              rwa [show (Ptr.lastC (partN l k) (Ptr.par l (k + j) - k) j + (k : Int)).toNat = k + (Ptr.lastC (partN l k) (Ptr.par l (k + j) - k) j).toNat by omega] at hf
        · rw [if_neg c4] at hf ⊢
          exact hf
theorem pdep (h : Rt l root k) : ∀ (m j : Nat), j ≤ m → j < Ptr.endN l k - k → Ptr.depN (partN l k) j ≤ Ptr.depN l (k + j) := by
  intro m
  induction m with
  | zero =>
    intro j hj hl
    obtain rfl : j = 0 := by omega
    obtain ⟨s1, s2, s3, _⟩ := h.spec
    rw [Ptr.depN_step h.prng 0 hl, Ptr.depN_step h.rng (k + 0) (by omega), pn_kin 0 hl, pn_par0 hl, if_pos (show (-1 : Int) < 0 by omega)]
    omega
  | succ m ih =>
    intro j hj hl
    obtain ⟨s1, s2, s3, _⟩ := h.spec
    by_cases e : j = 0
    · subst e; exact ih 0 (by omega) hl
    · have hp := s3 (k + j) (by omega) (by omega)
      have hr := h.rng (k + j) (by omega)
      rw [Ptr.depN_step h.prng j hl, Ptr.depN_step h.rng (k + j) (by omega), pn_kin j hl, pn_par j hl (by omega), if_neg (show ¬ Ptr.par l (k + j) - (k : Int) < 0 by omega), if_neg (show ¬ Ptr.par l (k + j) < 0 by omega)]
      have := ih (Ptr.par l (k + j) - k).toNat (by omega) (by omega)
      rw [show k + (Ptr.par l (k + j) - (k : Int)).toNat = (Ptr.par l (k + j)).toNat by omega] at this
      omega
end Rt
theorem deepest_ge {l : List Ptr.Nd} {i : Nat} (hk : Ptr.kin l i = 2) : ∀ n, i < n → Ptr.depN l i ≤ Ptr.deepest l n
  | 0, h => by omega
  | n + 1, h => by
    rw [Ptr.deepest_at]
    by_cases e : i = n
    · subst e; rw [if_pos hk]; exact Nat.le_max_right _ _
    · have := deepest_ge hk n (by omega)
      split
      · exact Nat.le_trans this (Nat.le_max_left _ _)
      · exact this
theorem deepest_of {l : List Ptr.Nd} {M : Nat} : ∀ n, (∀ i, i < n → Ptr.kin l i = 2 → Ptr.depN l i ≤ M) → Ptr.deepest l n ≤ M
  | 0, _ => Nat.zero_le _
  | n + 1, h => by
    rw [Ptr.deepest_at]
    have := deepest_of n (fun i hi hk => h i (by omega) hk)
    split
    · rename_i hk
      exact Nat.max_le.2 ⟨this, h n (by omega) hk⟩
    · exact this
theorem allB_of {l : List Ptr.Nd} {root : Bool} : ∀ n, (∀ i, i < n → Ptr.good l root i = true) → Ptr.allB l root n = true
  | 0, _ => rfl
  | n + 1, h => by
    unfold Ptr.allB
    rw [allB_of n (fun i hi => h i (by omega)), h n (by omega)]
    rfl
theorem chk_parts {l : List Ptr.Nd} {root : Bool} (h : Ptr.chk l root = 0) : l.length ≤ 16384 ∧ Ptr.deepest l l.length ≤ 60 ∧ (root = true → Ptr.tops l l.length = 1) := by
  unfold Ptr.chk at h
  split at h
  · cases h
  · split at h
    · cases h
    · split at h
      · cases h
      · rename_i h3
        split at h
        · cases h
        · refine ⟨by omega, by omega, fun hr => ?_⟩
          apply Classical.byContradiction
          intro hn
          exact h3 ⟨hr, .inl hn⟩
/-- the part of a right tree at a node that is no attribute is a right fragment -/
theorem chk_part {l : List Ptr.Nd} {k : Nat} (h : Ptr.chk l true = 0) (hk : k < l.length) (h0 : 0 < k) (h3 : Ptr.kin l k ≠ 3) : Ptr.chk (partN l k) false = 0 := by
  have R : Rt l true k := ⟨chk_all h, hk⟩
  obtain ⟨c1, c2, _⟩ := chk_parts h
  obtain ⟨s1, s2, s3, _⟩ := R.spec
  unfold Ptr.chk
  rw [partN_len, if_neg (by omega), allB_of _ (fun j hj => by
    unfold Ptr.good
    rw [R.popen j hj, if_neg (by simp), R.pfits h0 h3 j hj]
    rfl), if_neg (by simp), if_neg (by simp), if_neg]
  have := deepest_of (l := partN l k) (M := 60) (Ptr.endN l k - k) (fun i hi hki => by
    rw [pn_kin i hi] at hki
    exact Nat.le_trans (R.pdep i i (Nat.le_refl _) hi) (Nat.le_trans (deepest_ge hki l.length (by omega)) c2))
  omega
/-- of a right tree the root's part is the whole -/
theorem end_root {l : List Ptr.Nd} (h : Ptr.chk l true = 0) (hl : 0 < l.length) : Ptr.endN l 0 = l.length ∧ Ptr.par l 0 = -1 := by
  obtain ⟨_, _, ht⟩ := chk_parts h
  have R : Rt l true 0 := ⟨chk_all h, hl⟩
  have hp := Ptr.allB_pallB (chk_all h) (by rw [ht rfl]; omega)
  obtain ⟨s1, s2, s3, s4⟩ := R.spec
  have h0 := R.rng 0 hl
  refine ⟨?_, by omega⟩
  apply Classical.byContradiction
  intro hn
  have h5 := s4 (by omega)
  have hpg : Ptr.pgood l true (Ptr.endN l 0) = true := by
    cases hb : Ptr.pgood l true (Ptr.endN l 0) with
    | true => rfl
    | false => rw [Ptr.pallB_no hb l.length (by omega)] at hp; cases hp
  unfold Ptr.pgood at hpg
  rw [Bool.and_eq_true, if_neg (by simp; omega), Bool.and_eq_true] at hpg
  have := hpg.2.1
  rw [decide_eq_true (by simpa using h5)] at this
  cases this
theorem part_root {l : List Ptr.Nd} (h : Ptr.chk l true = 0) (hl : 0 < l.length) : partN l 0 = l := by
  obtain ⟨e, h0⟩ := end_root h hl
  apply List.ext_getElem?
  intro j
  by_cases hj : j < l.length
  · rw [partN_get l 0 j (by omega), nd_get hj, Nat.zero_add]
    by_cases e2 : j = 0
    · subst e2; rw [if_pos rfl, h0]
    · rw [if_neg e2]
      simp
  · rw [List.getElem?_eq_none (by rw [partN_len]; omega), List.getElem?_eq_none (by omega)]
end Go.Proofs.YtkcpfjhdbbapiaaDoor.Wtr
namespace Go.Proofs.YtkcpfjhdbbapiaaDoor.Wtr
open Go Go.Proofs.YtkcpfjhdbbapiaaDoor.Kb

theorem textsFrom_split (l : List Ptr.Nd) (a b c : Nat) (h1 : a ≤ b) (h2 : b ≤ c) : textsFrom l a c = textsFrom l a b ++ textsFrom l b c := by
  unfold textsFrom
  rw [show c - a = (b - a) + (c - b) by omega, ← List.range'_append_1, List.flatMap_append, show a + (b - a) = b by omega]
/-- what a child gives to a text -/
def textC (l : List Ptr.Nd) (x : Nat) : List UInt8 := if Ptr.kin l x = 4 ∨ Ptr.kin l x = 2 then textN l x else []
def sumS (l : List Ptr.Nd) (L : List Nat) : Nat := (L.map fun x => Ptr.endN l x - x).sum
theorem sumS_cons (l : List Ptr.Nd) (x : Nat) (L : List Nat) : sumS l (x :: L) = (Ptr.endN l x - x) + sumS l L := by simp [sumS]
theorem sumS_append (l : List Ptr.Nd) (L M : List Nat) : sumS l (L ++ M) = sumS l L + sumS l M := by simp [sumS]
namespace Rt
variable {l : List Ptr.Nd} {root : Bool} {k : Nat}
theorem kin1 (h : Rt l root k) (i : Nat) (hi : i < l.length) (h0 : 0 < i) : Ptr.kin l i ≠ 1 := by
  intro e
  have hf := h.fits i hi h0
  unfold Ptr.fitsB Ptr.fitsK at hf
  rw [e] at hf
  simp at hf
/-- a child's subtree: its text -/
theorem text_kid (h : Rt l root k) (i : Nat) (hi : i < l.length) (h0 : 0 < i) : textsFrom l i (Ptr.endN l i) = textC l i := by
  have R : Rt l root i := ⟨h.all, hi⟩
  have h1 := h.kin1 i hi h0
  unfold textC
  by_cases h2 : Ptr.kin l i = 2
  · rw [if_pos (.inr h2)]
    unfold textN
    rw [h2, if_pos (show (2 == 1 || 2 == 2) = true from rfl), endN_same]
  · rw [R.lone h1 h2, textsFrom_step l i i (Nat.le_refl _), show textsFrom l i i = [] by simp [textsFrom], List.nil_append]
    by_cases h4 : Ptr.kin l i = 4
    · rw [if_pos (c := Ptr.kin l i = 4 ∨ Ptr.kin l i = 2) (.inl h4), if_pos (c := (Ptr.kin l i == 4) = true) (by rw [h4]; rfl)]
      unfold textN
      rw [h4, if_neg (by simp)]
    · rw [if_neg (c := Ptr.kin l i = 4 ∨ Ptr.kin l i = 2) (by omega), if_neg (c := (Ptr.kin l i == 4) = true) (by simpa using h4)]
/-- the next child -/
theorem next (h : Rt l root k) (i : Nat) (hi : k < i) (hE : i < Ptr.endN l k) (hp : Ptr.par l i = k) : i < Ptr.endN l i ∧ Ptr.endN l i ≤ Ptr.endN l k ∧ (Ptr.endN l i < Ptr.endN l k → Ptr.par l (Ptr.endN l i) = k) ∧
    ∀ at', Ptr.kidsL l k at' i (Ptr.endN l k) = (if ((Ptr.kin l i == 3) == at') = true then [i] else []) ++ Ptr.kidsL l k at' (Ptr.endN l i) (Ptr.endN l k) := by
  obtain ⟨s1, s2, s3, s4⟩ := h.spec
  have R : Rt l root i := ⟨h.all, by omega⟩
  obtain ⟨t1, t2, t3, t4⟩ := R.spec
  have hle : Ptr.endN l i ≤ Ptr.endN l k := by
    apply Classical.byContradiction
    intro hn
    have h5 := s4 (by omega)
    have h6 := t3 (Ptr.endN l k) (by omega) (by omega)
    omega
  refine ⟨t1, hle, fun hlt => ?_, fun at' => ?_⟩
  · have h5 := t4 (by omega)
    have h6 := s3 (Ptr.endN l i) (by omega) hlt
    apply Classical.byContradiction
    intro hn
    have := Ptr.between h.rng h.opn (Ptr.endN l i) (Ptr.endN l i) (by omega) (Nat.le_refl _) i (by omega) t1
    omega
  · rw [Ptr.kidsL_split l k at' i (i + 1) (Ptr.endN l k) (by omega) (by omega), Ptr.kidsL_split l k at' (i + 1) (Ptr.endN l i) (Ptr.endN l k) (by omega) hle]
    have e1 : Ptr.kidsL l k at' i (i + 1) = if ((Ptr.kin l i == 3) == at') = true then [i] else [] := by
      rw [Ptr.kidsL_step l k at' i i (Nat.le_refl _), decide_eq_true hp, Bool.true_and, show Ptr.kidsL l k at' i i = [] by simp [Ptr.kidsL], List.nil_append]
    have e2 : Ptr.kidsL l k at' (i + 1) (Ptr.endN l i) = [] := by
      have := Ptr.kidsL_none l k at' (i + 1) (Ptr.endN l i - (i + 1)) (fun j h1 h2 e => by
        have := t3 j (by omega) (by omega)
        omega)
      rwa [show i + 1 + (Ptr.endN l i - (i + 1)) = Ptr.endN l i by omega] at this
    rw [e1, e2, List.nil_append]
theorem sums (h : Rt l root k) : ∀ (m i : Nat), Ptr.endN l k - i ≤ m → k < i → i ≤ Ptr.endN l k → (i < Ptr.endN l k → Ptr.par l i = k) →
    sumS l (Ptr.kidsL l k true i (Ptr.endN l k)) + sumS l (Ptr.kidsL l k false i (Ptr.endN l k)) = Ptr.endN l k - i ∧ (Ptr.kidsL l k false i (Ptr.endN l k)).flatMap (textC l) = textsFrom l i (Ptr.endN l k) := by
  intro m
  induction m with
  | zero =>
    intro i hm hk hi _
    obtain rfl : i = Ptr.endN l k := by omega
    exact ⟨by simp [Ptr.kidsL, sumS], by simp [Ptr.kidsL, textsFrom]⟩
  | succ m ih =>
    intro i hm hk hi hb
    by_cases e : i < Ptr.endN l k
    · obtain ⟨n1, n2, n3, n4⟩ := h.next i hk e (hb e)
      obtain ⟨a, b⟩ := ih (Ptr.endN l i) (by omega) (by omega) n2 n3
      have hs := h.spec
      have ht := h.text_kid i (by omega) (by omega)
      rw [n4 true, n4 false, sumS_append, sumS_append, List.flatMap_append, b, textsFrom_split l i (Ptr.endN l i) (Ptr.endN l k) (by omega) n2, ht]
      cases hx : Ptr.kin l i == 3 with
      | true =>
        have h3 : Ptr.kin l i = 3 := by simpa using hx
        constructor
        · simp [sumS] at a ⊢
          omega
        · unfold textC
          rw [if_neg (c := Ptr.kin l i = 4 ∨ Ptr.kin l i = 2) (by omega)]
          simp
      | false =>
        constructor
        · simp [sumS] at a ⊢
          omega
        · simp
    · obtain rfl : i = Ptr.endN l k := by omega
      exact ⟨by simp [Ptr.kidsL, sumS], by simp [Ptr.kidsL, textsFrom]⟩
/-- all children together -/
theorem whole (h : Rt l root k) : 1 + (sumS l (Ptr.kidsL l k true (k + 1) (Ptr.endN l k)) + sumS l (Ptr.kidsL l k false (k + 1) (Ptr.endN l k))) = Ptr.endN l k - k ∧ ((Ptr.kin l k = 1 ∨ Ptr.kin l k = 2) → (Ptr.kidsL l k false (k + 1) (Ptr.endN l k)).flatMap (textC l) = textN l k) := by
  obtain ⟨s1, s2, s3, s4⟩ := h.spec
  obtain ⟨a, b⟩ := h.sums _ (k + 1) (Nat.le_refl _) (by omega) (by omega) (fun hlt => by
    have h3 := s3 (k + 1) (by omega) hlt
    have h4 := h.rng (k + 1) (by omega)
    omega)
  refine ⟨by omega, fun hk => ?_⟩
  rw [b]
  unfold textN
  rw [if_pos (by rcases hk with e | e <;> rw [e] <;> rfl), endN_same, textsFrom_split l k (k + 1) (Ptr.endN l k) (by omega) (by omega), textsFrom_step l k k (Nat.le_refl _), if_neg (by rcases hk with e | e <;> rw [e] <;> simp)]
  simp [textsFrom]
theorem attr_text : (Ptr.kidsL l k true (k + 1) (Ptr.endN l k)).flatMap (textC l) = [] := by
  rw [List.flatMap_eq_nil_iff]
  intro x hx
  unfold Ptr.kidsL at hx
  have := (List.mem_filter.1 hx).2
  rw [Bool.and_eq_true] at this
  have h3 : Ptr.kin l x = 3 := by simpa using this.2
  unfold textC
  rw [if_neg (by omega)]
theorem texts_part (h : Rt l root k) : ∀ n, n ≤ Ptr.endN l k - k → textsFrom (partN l k) 0 n = textsFrom l k (k + n)
  | 0, _ => by simp [textsFrom]
  | n + 1, hn => by
    rw [textsFrom_step _ 0 n (by omega), ← Nat.add_assoc, textsFrom_step l k (k + n) (by omega), h.texts_part n (by omega), pn_kin n (by omega), pn_val n (by omega)]
theorem end_part (h : Rt l root k) : Ptr.endN (partN l k) 0 = Ptr.endN l k - k := by
  obtain ⟨s1, s2, s3, s4⟩ := h.spec
  have hl := partN_len l k
  obtain ⟨a, b, c, d⟩ := Ptr.endN_spec (partN l k) 0 (by omega)
  apply Classical.byContradiction
  intro hn
  have h5 := d (by omega)
  rw [pn_par _ (by omega) (by omega)] at h5
  have h6 := s3 (k + Ptr.endN (partN l k) 0) (by omega) (by omega)
  omega
theorem text_part (h : Rt l root k) : textN (partN l k) 0 = textN l k := by
  obtain ⟨s1, s2, s3, s4⟩ := h.spec
  unfold textN
  rw [pn_kin 0 (by omega), pn_val 0 (by omega), Nat.add_zero, endN_same, endN_same, h.end_part, h.texts_part _ (Nat.le_refl _), show k + (Ptr.endN l k - k) = Ptr.endN l k by omega]
end Rt
end Go.Proofs.YtkcpfjhdbbapiaaDoor.Wtr
namespace Go.Proofs.YtkcpfjhdbbapiaaDoor.Wtr
open Go Go.RowKit Go.Proofs.YtkcpfjhdbbapiaaDoor.Kb Go.Proofs.YtkcpfjhdbbapiaaDoor.Flt

/-- which place is picked -/
def pickV (x : Int) (n : Nat) : Nat := (if x.tmod n < 0 then x.tmod n + n else x.tmod n).toNat
theorem pickV_lt (x : Int) (n : Nat) (hn : 0 < n) : pickV x n < n := by
  have hb1 : -(n : Int) < x.tmod n := Int.lt_tmod_of_pos x (by omega)
  have hb2 : x.tmod n < n := Int.tmod_lt_of_pos x (by omega)
  unfold pickV
  split <;> omega
set_option maxHeartbeats 1000000 in
theorem pick_n (x : Int) (n : Nat) (hn : 0 < n) (hm : n ≤ 100000) (w : World) : Calls Tryd.prog 14 #[.int .i64 x, .int .i64 n] w fun e w' => e = .returned (.int .i64 (pickV x n)) ∧ w = w' := by
  have hb1 : -(n : Int) < x.tmod n := Int.lt_tmod_of_pos x (by omega)
  have hb2 : x.tmod n < n := Int.tmod_lt_of_pos x (by omega)
  have n1 : ¬ (n : Int) < 1 := by omega
  have n2 : ¬ (n : Int) = 0 := by omega
  have n4 : (n : Int) ≤ 100000 := by omega
  have hv : Kept ((pickV x n : Int) = if x.tmod n < 0 then x.tmod n + n else x.tmod n) := ⟨by unfold pickV; split <;> omega⟩
  by_cases hx : x.tmod n < 0
  · have hv2 : Kept ((pickV x n : Int) = x.tmod n + n) := ⟨by rw [hv.out, if_pos hx]⟩
    clear hv
    go_enter Tryd.func14, Tryd.ntmps14
    go_wp2
    go_ret
    exact ⟨ret_i64 (by rw [hv2.out]), rfl⟩
  · have hv2 : Kept ((pickV x n : Int) = x.tmod n) := ⟨by rw [hv.out, if_neg hx]⟩
    clear hv
    go_enter Tryd.func14, Tryd.ntmps14
    go_wp2
    go_ret
    exact ⟨ret_i64 (by rw [hv2.out]), rfl⟩
theorem place_of {l : List Ptr.Nd} {i : Nat} (hC : Ptr.chk l true = 0) (hi : i < l.length) : placeB l i = true := by
  unfold placeB
  rw [hC, decide_eq_true ⟨by omega, by omega⟩]
  rfl
theorem part_of {l : List Ptr.Nd} {i : Nat} (hC : Ptr.chk l true = 0) (hi : i < l.length) : partB l i = partN l i := by
  unfold partB
  rw [if_pos (place_of hC hi), Int.toNat_natCast]
theorem chk_len {l : List Ptr.Nd} (hC : Ptr.chk l true = 0) : 0 < l.length := by
  rcases Nat.eq_zero_or_pos l.length with h | h
  · have := (chk_parts hC).2.2 rfl
    rw [h] at this
    cases this
  · exact h
set_option maxRecDepth 100000 in
set_option maxHeartbeats 4000000 in
theorem cuts_no (A : Option Addr) (l : List Ptr.Nd) (c : Nat) (a : Int) (w : World) (hr : RdN w A l) (hf : FitP l) (hE : TEnv w) (hno : 300 < l.length ∨ Ptr.chk l true ≠ 0) :
    Calls Tryd.prog 6 #[.slice A l.length c, .int .i64 a] w fun e w' => e = .returned (.bool true) ∧ Below w.heap.size w w' := by
  have CA := Kept.mk (awake_any w hE)
  by_cases hl : l.length ≤ 300
  · have b1 : ¬ (300 : Int) < (l.length : Int) := by omega
    have h0 : Ptr.chk l true ≠ 0 := by omega
    have CC := Kept.mk (fun wx (hx : Below w.heap.size w wx) => check_any A l c wx (hr.below hx) (by omega) hf (hE.below hx))
    have q1 : (((Ptr.chk l true : Nat) : Int) != 0) = true := by simpa using h0
    clear hr hf hE hno h0
    generalize Ptr.chk l true = C at CC q1
    go_enter Tryd.func6, Tryd.ntmps6
    go_wp2_with (first | (go_at_call 7; refine CA.out.mono ?_; rintro e w1 ⟨rfl, hb1⟩; have B1 := Kept.mk hb1; clear hb1) | (go_at_call 9; refine (CC.out _ B1.out).mono ?_; rintro e w2 ⟨rfl, hb2⟩; have B2 := Kept.mk (B1.out.trans (hb2.mono B1.out.size)); clear hb2))
    go_ret
    exact ⟨rfl, B2.out⟩
  · have b1 : (300 : Int) < (l.length : Int) := by omega
    clear hr hf hE hno
    go_enter Tryd.func6, Tryd.ntmps6
    go_wp2_with (go_at_call 7; refine CA.out.mono ?_; rintro e w1 ⟨rfl, hb1⟩; have B1 := Kept.mk hb1; clear hb1)
    go_ret
    exact ⟨rfl, B1.out⟩
/-- a row of one node, its cells -/
theorem one_got {w : World} {base : Nat} {v : Value} {x : Ptr.Nd} (h : w.ownsRow base 32 4 v [x].length (ndsC [x])) : ∃ g c', v = .slice (some ⟨g, 0, none⟩) 1 c' ∧ w.cell? ⟨g, 0, none⟩ = some (.int .u8 x.1) ∧ w.cell? ⟨g, 1, none⟩ = some (.string ⟨x.2.1.toArray⟩) ∧ w.cell? ⟨g, 2, none⟩ = some (.string ⟨x.2.2.1.toArray⟩) ∧ w.cell? ⟨g, 3, none⟩ = some (.int .i64 x.2.2.2) := by
  obtain ⟨g, c', rfl⟩ := Joins.ownsRow_form h (by simp)
  have hn := (rdn_of_own (l := [x]) h).cells (i := 0) (by simp)
  simp only [Nat.zero_mul, Nat.add_zero] at hn
  exact ⟨g, c', rfl, hn.1, hn.2.1, hn.2.2.1, hn.2.2.2⟩
theorem part_attr {l : List Ptr.Nd} {k : Nat} (hC : Ptr.chk l true = 0) (hk : k < l.length) (h3 : Ptr.kin l k = 3) : partB l k = [(3, Ptr.nam l k, Ptr.val l k, -1)] := by
  have R : Rt l true k := ⟨chk_all hC, hk⟩
  rw [part_of hC hk]
  unfold partN
  rw [R.lone (by omega) (by omega), Nat.add_sub_cancel_left]
  rw [show (List.range 1) = [0] from rfl, List.map_cons, List.map_nil, Nat.add_zero, h3, if_pos rfl]
set_option maxRecDepth 100000 in
set_option maxHeartbeats 4000000 in
theorem cuts_attr (A : Option Addr) (l : List Ptr.Nd) (c : Nat) (a : Int) (w : World) (hr : RdN w A l) (hc : l.length ≤ c) (hf : FitP l) (hE : TEnv w) (hl : l.length ≤ 300) (hC : Ptr.chk l true = 0) (h3 : Ptr.kin l (pickV a l.length) = 3) :
    Calls Tryd.prog 6 #[.slice A l.length c, .int .i64 a] w fun e w' => e = .returned (.bool true) ∧ Below w.heap.size w w' := by
  have h0 := chk_len hC
  have hk := pickV_lt a l.length h0
  have CA := Kept.mk (awake_any w hE)
  have cC := fun wx (hx : Below w.heap.size w wx) => check_any A l c wx (hr.below hx) (by omega) hf (hE.below hx)
  rw [hC] at cC
  have cP := fun wx (hx : Below w.heap.size w wx) => Part_any A l c (pickV a l.length) wx (hr.below hx) (by omega) hc hf (hE.below hx)
  rw [part_attr hC hk h3] at cP
  have CK := Kept.mk (fun wx => pick_n a l.length h0 (by omega) wx)
  generalize pickV a l.length = k at hk h3 cP CK
  obtain ⟨b, off, rfl, c0, c1, c2, c3⟩ := hr.at_ hk
  simp only at c0 c1 c2
  rw [h3] at c0
  have b1 : ¬ (300 : Int) < (l.length : Int) := by omega
  have i0 : (0 : Int) ≤ (k : Int) := by omega
  have i1 : (k : Int) < (l.length : Int) := by omega
  obtain ⟨y1, hy1⟩ : ∃ y : ByteArray, y = ⟨(Ptr.nam l k).toArray⟩ := ⟨_, rfl⟩
  obtain ⟨y2, hy2⟩ : ∃ y : ByteArray, y = ⟨(Ptr.val l k).toArray⟩ := ⟨_, rfl⟩
  rw [← hy1] at c1
  rw [← hy2] at c2
  have HY1 := Kept.mk hy1; have HY2 := Kept.mk hy2
  have C0 := Kept.mk c0; have C1 := Kept.mk c1; have C2 := Kept.mk c2
  have CC := Kept.mk cC
  have CP := Kept.mk cP
  clear hr hf hE hC h3 cC cP c0 c1 c2 c3 hy1 hy2
  go_enter Tryd.func6, Tryd.ntmps6
  go_wp2_with (first | (go_at_call 7; refine CA.out.mono ?_; rintro e w1 ⟨rfl, hb1⟩; have B1 := Kept.mk hb1; clear hb1) | (go_at_call 9; refine (CC.out _ B1.out).mono ?_; rintro e w2 ⟨rfl, hb2⟩; have B2 := Kept.mk (B1.out.trans (hb2.mono B1.out.size)); clear hb2) | (go_at_call 14; refine (CK.out _).mono ?_; rintro e w' ⟨rfl, rfl⟩) | (go_at_call 18; refine (CP.out _ B2.out).mono ?_; rintro e w3 ⟨v, rfl, hO, hb3⟩; obtain ⟨g, c', rfl, d0, d1, d2, d3⟩ := one_got hO; rw [← HY1.out] at d1; rw [← HY2.out] at d2; have B3 := Kept.mk (B2.out.trans (hb3.mono B2.out.size)); have c0 := cell_keep B3.out C0.out; have c1 := cell_keep B3.out C1.out; have c2 := cell_keep B3.out C2.out; clear hb3 hO))
  go_quiet (fail)
  go_wp2
  go_ret
  exact ⟨rfl, below_drewN B3.out _⟩
end Go.Proofs.YtkcpfjhdbbapiaaDoor.Wtr
namespace Go.Proofs.YtkcpfjhdbbapiaaDoor.Wtr
open Go Go.RowKit Go.Proofs.YtkcpfjhdbbapiaaDoor.Kb Go.Proofs.YtkcpfjhdbbapiaaDoor.Flt

theorem fit_part {l : List Ptr.Nd} {k : Nat} (h : FitP l) : FitP (partN l k) := fun j => by
  by_cases hj : j < Ptr.endN l k - k
  · rw [pn_nam j hj, pn_val j hj, pn_kin j hj]
    exact h (k + j)
  · unfold Ptr.nam Ptr.val Ptr.kin
    rw [List.getD_eq_getElem?_getD, List.getElem?_eq_none (by rw [partN_len]; omega)]
    simp [Ptr.nd0]
theorem own_shape_x {w : World} {base n k : Nat} {e : TypeId} {v : Value} {xs : List Value} (h : w.ownsRow base e k v n xs) : ∃ A c, v = .slice A n c := by
  rcases h.2 with ⟨rfl, hn⟩ | ⟨g, cap, cur, rfl, _⟩
  · subst hn; exact ⟨none, 0, rfl⟩
  · exact ⟨_, cap, rfl⟩
/-- 'append(v, y...)' of two rows of numbers of the call's own -/
theorem wpList_append_ints {ops : Array Oper} {rest : List Oper} {o : Oper} {a : Act} {Q : Exit → Act → World → Prop} {w : World} (hgd : o.guard = none) (s x : Operand)
    (ho : o.op = .call { callee := .builtin .append, args := #[s, x], argTypes := #[35, 35] }) (base base' : Nat) (v y : Value) (n m : Nat) (xs : List Value) (ys : List Nat) (hs : a.eval s = v) (hown : w.ownsRow base 3 1 v n xs)
    (hx : a.eval x = y) (hy : w.ownsRow base' 3 1 y m (ic ys)) (hb : n + m ≤ 1000000) (hbase : base ≤ w.heap.size)
    (h : ∀ v' w', w'.ownsRow base 3 1 v' (n + m) (xs ++ ic ys) → w.grownBy w' v.ownBlock → wpList Tryd.prog ops Q rest (a.put o.dst v') w') : wpList Tryd.prog ops Q (o :: rest) a w := by
  obtain ⟨i0, hi, hz0, hz1, hz2⟩ := info_parts infoI'
  rcases hy.2 with ⟨rfl, hm⟩ | ⟨g, cap, cur, rfl, _⟩
  · subst hm
    have hys : ys = [] := by
      have := hy.1
      rw [ic_length] at this
      exact List.length_eq_zero_iff.1 (by omega)
    subst hys
    exact wpList_append_own_none hgd s x _ ho base _ i0 1 Tryd.underlying35 hi v n xs hs hown hx (h v w (by simpa [ic] using hown) (World.grownBy.refl _ _))
  · have hl := hy.1
    rw [ic_length] at hl
    exact wpList_append_own _ hgd s x _ ho base _ i0 (.int .i64 0) 1 8 Tryd.underlying35 hi hz0 hz1 hz2 rfl (by decide) v n xs hs hown ⟨g, 0, none⟩ m cap (ic ys) hx (by rw [ic_length]; omega) (hy.cells (g := g) rfl) (by intro u hu; unfold ic at hu; obtain ⟨z, _, rfl⟩ := List.mem_map.1 hu; rfl) (by unfold maxLen; omega) (by omega) hbase (fun v' w' h1 h2 _ => h v' w' h1 h2)
/-- the places of a node's attributes and children -/
def childL (l : List Ptr.Nd) (k : Nat) : List Nat := Ptr.kidsL l k true (k + 1) (Ptr.endN l k) ++ Ptr.kidsL l k false (k + 1) (Ptr.endN l k)
theorem kids_mem {l : List Ptr.Nd} {k a b x : Nat} {at' : Bool} (h : x ∈ Ptr.kidsL l k at' a b) : a ≤ x ∧ x < b := by
  unfold Ptr.kidsL at h
  have := List.mem_range'.1 (List.mem_filter.1 h).1
  omega
theorem child_mem {l : List Ptr.Nd} {k x : Nat} (h : x ∈ childL l k) : k < x ∧ x < Ptr.endN l k := by
  unfold childL at h
  rcases List.mem_append.1 h with h | h
  · have := kids_mem h; omega
  · have := kids_mem h; omega
theorem kids_of {l : List Ptr.Nd} {k : Nat} (hC : Ptr.chk l true = 0) (hk : k < l.length) (at' : Bool) : kidsB l k at' = Ptr.kidsL l k at' (k + 1) (Ptr.endN l k) := by
  unfold kidsB
  rw [if_pos (place_of hC hk), Int.toNat_natCast]
/-- the sum so far, and the text so far -/
def totS (l : List Ptr.Nd) (L : List Nat) (j : Nat) : Nat := 1 + sumS l (L.take j)
def totT (l : List Ptr.Nd) (L : List Nat) (j : Nat) : List UInt8 := (L.take j).flatMap (textC l)
theorem take_step {L : List Nat} {j x : Nat} (h : L[j]? = some x) : L.take (j + 1) = L.take j ++ [x] := by
  obtain ⟨hj, rfl⟩ := List.getElem?_eq_some_iff.1 h
  rw [List.take_succ_eq_append_getElem hj]
theorem totS_step {l : List Ptr.Nd} {L : List Nat} {j x : Nat} (h : L[j]? = some x) : totS l L (j + 1) = totS l L j + (Ptr.endN l x - x) := by
  unfold totS
  rw [take_step h, sumS_append]
  simp [sumS]
  omega
theorem totT_step {l : List Ptr.Nd} {L : List Nat} {j x : Nat} (h : L[j]? = some x) : totT l L (j + 1) = totT l L j ++ textC l x := by
  unfold totT
  rw [take_step h, List.flatMap_append]
  simp
theorem sumS_take (l : List Ptr.Nd) (L : List Nat) (j : Nat) : sumS l (L.take j) ≤ sumS l L := by
  rw [← List.take_append_drop j L, sumS_append, List.take_append_drop]
  have : (L.take j ++ L.drop j).take j = L.take j := by rw [List.take_append_drop]
  rw [List.take_append_drop] at this
  omega
theorem textN_le {l : List Ptr.Nd} (hC : Ptr.chk l true = 0) (i : Nat) (hi : i < l.length) (hl : l.length ≤ 300) : (textN l i).length ≤ 300 * 65536 := by
  have hv : ∀ j, (Ptr.val l j).length ≤ 65536 := val_small hC
  unfold textN
  split
  · obtain ⟨h1, h2⟩ := endN_le l i hi
    have := textsFrom_len l i 65536 hv (endN l i - i)
    rw [show i + (endN l i - i) = endN l i by omega] at this
    exact Nat.le_trans this (Nat.mul_le_mul_right _ (by omega))
  · have := hv i
    omega
theorem totT_le {l : List Ptr.Nd} {L : List Nat} (hC : Ptr.chk l true = 0) (hl : l.length ≤ 300) (hm : ∀ x ∈ L, x < l.length) : ∀ j, j ≤ L.length → (totT l L j).length ≤ j * (300 * 65536)
  | 0, _ => by simp [totT]
  | j + 1, h => by
    have hx : L[j]? = some (L[j]'(by omega)) := List.getElem?_eq_getElem (by omega)
    rw [totT_step hx, List.length_append, Nat.succ_mul]
    have h1 := totT_le hC hl hm j (by omega)
    have h2 : (textC l (L[j]'(by omega))).length ≤ 300 * 65536 := by
      unfold textC
      split
      · exact textN_le hC _ (hm _ (List.getElem_mem _)) hl
      · simp
    omega
theorem child_len {l : List Ptr.Nd} {k : Nat} (hk : k < l.length) : (childL l k).length ≤ 2 * l.length := by
  obtain ⟨a, b, _, _⟩ := Ptr.endN_spec l k hk
  unfold childL
  rw [List.length_append]
  have h1 := Ptr.kidsL_le l k true (k + 1) (Ptr.endN l k)
  have h2 := Ptr.kidsL_le l k false (k + 1) (Ptr.endN l k)
  omega
theorem tot_all {l : List Ptr.Nd} {k : Nat} (hC : Ptr.chk l true = 0) (hk : k < l.length) : totS l (childL l k) (childL l k).length = Ptr.endN l k - k ∧ ((Ptr.kin l k = 1 ∨ Ptr.kin l k = 2) → totT l (childL l k) (childL l k).length = textN l k) ∧ (Ptr.kin l k ≠ 1 → Ptr.kin l k ≠ 2 → childL l k = []) := by
  have R : Rt l true k := ⟨chk_all hC, hk⟩
  obtain ⟨h1, h2⟩ := R.whole
  unfold totS totT
  rw [List.take_length]
  refine ⟨?_, fun hi => ?_, fun n1 n2 => ?_⟩
  · unfold childL
    rw [sumS_append]
    exact h1
  · unfold childL
    rw [List.flatMap_append, Rt.attr_text, List.nil_append]
    exact h2 hi
  · unfold childL
    rw [R.lone n1 n2]
    simp [Ptr.kidsL]
set_option maxRecDepth 100000 in
set_option maxHeartbeats 8000000 in
theorem cuts_node (A : Option Addr) (l : List Ptr.Nd) (c : Nat) (a : Int) (w : World) (hr : RdN w A l) (hc : l.length ≤ c) (hf : FitP l) (hE : TEnv w) (hl : l.length ≤ 300) (hC : Ptr.chk l true = 0) (h3 : Ptr.kin l (pickV a l.length) ≠ 3) :
    Calls Tryd.prog 6 #[.slice A l.length c, .int .i64 a] w fun e w' => e = .returned (.bool true) ∧ Below w.heap.size w w' := by
  have h0 := chk_len hC
  have hk := pickV_lt a l.length h0
  have CA := Kept.mk (awake_any w hE)
  have cC := fun wx (hx : Below w.heap.size w wx) => check_any A l c wx (hr.below hx) (by omega) hf (hE.below hx)
  rw [hC] at cC
  have CC := Kept.mk cC
  have CK := Kept.mk (fun wx => pick_n a l.length h0 (by omega) wx)
  generalize pickV a l.length = k at hk h3 CK
  have R : Rt l true k := ⟨chk_all hC, hk⟩
  obtain ⟨s1, s2, _, _⟩ := R.spec
  have cP := fun (x : Nat) (hx : x < l.length) wx (hb : Below w.heap.size w wx) => Part_any A l c x wx (hr.below hb) (by omega) hc hf (hE.below hb)
  have cT := fun (x : Nat) (hx : x < l.length) wx (hb : Below w.heap.size w wx) => Text_any A l c x wx (hr.below hb) (by omega) hf (hE.below hb) hx hc (place_of hC hx)
  have cE := fun wx (hb : Below w.heap.size w wx) => End_any A l c k wx (hr.below hb) (by omega) hf (hE.below hb)
  rw [show endB l k = Ptr.endN l k by unfold endB; rw [if_pos (place_of hC hk), Int.toNat_natCast, endN_same]] at cE
  have cAt := fun wx (hb : Below w.heap.size w wx) => Attributes_any A l c k wx (hr.below hb) (by omega) hf (hE.below hb)
  have cKi := fun wx (hb : Below w.heap.size w wx) => Kids_any A l c k wx (hr.below hb) (by omega) hf (hE.below hb)
  rw [kids_of hC hk] at cAt cKi
  have pF : FitP (partN l k) := fit_part hf
  have pl := partN_len l k
  have pT := R.text_part
  have pC : (0 < k → Ptr.chk (partN l k) false = 0) ∧ (k = 0 → Ptr.chk (partN l k) true = 0) := ⟨fun h => chk_part hC hk h h3, fun h => by subst h; rw [part_root hC hk]; exact hC⟩
  have pPl : placeB (partN l k) 0 = true := by
    unfold placeB
    rw [decide_eq_true ⟨by omega, by rw [pl]; omega⟩, Bool.true_and]
    by_cases e : k = 0
    · rw [pC.2 e]; rfl
    · rw [pC.1 (by omega), Bool.or_comm]; rfl
  have cQf := fun g c' wx (hx : RdN wx (some ⟨g, 0, none⟩) (partN l k)) (hb : Below w.heap.size w wx) => fragment_any (some ⟨g, 0, none⟩) (partN l k) c' wx hx (by rw [pl]; omega) pF (hE.below hb)
  have cQc := fun g c' wx (hx : RdN wx (some ⟨g, 0, none⟩) (partN l k)) (hb : Below w.heap.size w wx) => check_any (some ⟨g, 0, none⟩) (partN l k) c' wx hx (by rw [pl]; omega) pF (hE.below hb)
  have cQt := fun g c' wx (hx : RdN wx (some ⟨g, 0, none⟩) (partN l k)) (hb : Below w.heap.size w wx) (hc' : (partN l k).length ≤ c') => Text_any (some ⟨g, 0, none⟩) (partN l k) c' 0 wx hx (by rw [pl]; omega) pF (hE.below hb) (by rw [pl]; omega) hc' pPl
  rw [pT] at cQt
  rw [pl] at cQf cQc cQt
  obtain ⟨t1, t2, t4⟩ := tot_all hC hk
  have hml : ∀ x ∈ childL l k, k < x ∧ x < l.length := fun x hx => by have := child_mem hx; omega
  have hcl := child_len hk
  have htl := fun j hj => totT_le (L := childL l k) hC hl (fun x hx => (hml x hx).2) j hj
  have htk := textN_le hC k hk hl
  have cPk := cP k hk
  rw [part_of hC hk, pl] at cPk
  obtain ⟨b, off, rfl, ck0, _⟩ := hr.at_ hk
  simp only at ck0
  obtain ⟨LA, hLA⟩ : ∃ L, Ptr.kidsL l k true (k + 1) (Ptr.endN l k) = L := ⟨_, rfl⟩
  obtain ⟨LB, hLB⟩ : ∃ L, Ptr.kidsL l k false (k + 1) (Ptr.endN l k) = L := ⟨_, rfl⟩
  have hLL : childL l k = LA ++ LB := by unfold childL; rw [hLA, hLB]
  rw [hLA] at cAt
  rw [hLB] at cKi
  rw [hLL] at t1 t2 t4 hml hcl htl
  obtain ⟨yT, hyT⟩ : ∃ y : ByteArray, y = ⟨(textN l k).toArray⟩ := ⟨_, rfl⟩
  have cTk := cT k hk
  rw [← hyT] at cQt cTk
  generalize Ptr.kin l k = K at ck0 h3 t2 t4
  generalize partN l k = PN at pl pC cQf cQc cQt cPk
  generalize Ptr.endN l k = E at s1 s2 cE t1 cPk pl cQf cQc cQt
  obtain ⟨m, rfl⟩ : ∃ m, E = k + m := ⟨E - k, by omega⟩
  rw [Nat.add_sub_cancel_left] at t1 cPk pl cQf cQc cQt
  have b1 : ¬ (300 : Int) < (l.length : Int) := by omega
  have i0 : (0 : Int) ≤ (k : Int) := by omega
  have i1 : (k : Int) < (l.length : Int) := by omega
  have q3 : (((K : Nat) : Int) == 3) = false := by simp; omega
  have e9 : ((m : Int) != (k : Int) + (m : Int) - (k : Int)) = false := by simp; omega
  have HR := Kept.mk hr; have HE := Kept.mk hE; have CK0 := Kept.mk ck0; have PL := Kept.mk pl; have PC := Kept.mk pC
  have CE := Kept.mk cE; have CAt := Kept.mk cAt; have CKi := Kept.mk cKi; have CPk := Kept.mk cPk; have CTk := Kept.mk cTk; have CP := Kept.mk cP; have CT := Kept.mk cT
  have CQf := Kept.mk cQf; have CQc := Kept.mk cQc; have CQt := Kept.mk cQt
  have T1 := Kept.mk t1; have T2 := Kept.mk t2; have T4 := Kept.mk t4; have HML := Kept.mk hml; have HTL := Kept.mk htl; have HTK := Kept.mk htk; have HYT := Kept.mk hyT; have H3 := Kept.mk h3; have HC := Kept.mk hC; have HRT := Kept.mk R
  clear hr hf hE hC cC cP cT cE cAt cKi cPk cTk cQf cQc cQt pF pl pT pC pPl ck0 t1 t2 t4 hml htl htk hyT h3 hLA hLB hLL R
  go_enter Tryd.func6, Tryd.ntmps6
  go_upto_region 9 with (first | (go_at_call 7; refine CA.out.mono ?_; rintro e w1 ⟨rfl, hb1⟩; have B1 := Kept.mk hb1; clear hb1) | (go_at_call 9; refine (CC.out _ B1.out).mono ?_; rintro e w2 ⟨rfl, hb2⟩; have B2 := Kept.mk (B1.out.trans (hb2.mono B1.out.size)); clear hb2) | (go_at_call 14; refine (CK.out _).mono ?_; rintro e w' ⟨rfl, rfl⟩) | (go_at_call 18; refine (CPk.out _ B2.out).mono ?_; rintro e w3 ⟨v, rfl, hO, hb3⟩; obtain ⟨g, c', rfl, _, _, hgc⟩ := own_block hO (by omega); have O3 := Kept.mk hO; have B3 := Kept.mk (B2.out.trans (hb3.mono B2.out.size)); have c0 := cell_keep B3.out CK0.out; clear hb3 hO))
  go_cut [102] (fun x wx => x = .bool false ∧ Kept (Below w3.heap.size w3 wx))
  case first =>
    have R3 := Kept.mk (rdn_of_own O3.out)
    have s3 := B3.out.size
    by_cases hk0 : 0 < k
    · have CF := Kept.mk (fun wx hx hb => by have := CQf.out g c' wx hx hb; rw [PC.out.1 hk0] at this; exact this)
      have u1 : (0 : Int) < (k : Int) := by omega
      have u2 : ((k : Int) == 0) = false := by simp; omega
      go_wp2_with (first | (go_at_call 19; refine (CE.out _ B3.out).mono ?_; rintro e w4 ⟨rfl, hb4⟩; have B4 := Kept.mk (B3.out.trans (hb4.mono s3)); have R4 := Kept.mk (R3.out.below hb4); have X4 := Kept.mk hb4; clear hb4) | (go_at_call 11; refine (CF.out _ R4.out B4.out).mono ?_; rintro e w5 ⟨rfl, hb5⟩; have B5 := Kept.mk (B4.out.trans (hb5.mono B4.out.size)); have R5 := Kept.mk (R4.out.below hb5); have X5 := Kept.mk (X4.out.trans (hb5.mono X4.out.size)); clear hb5) | (go_at_call_of 20 (Value.slice (some ⟨g, 0, none⟩) m c'); refine (CQt.out _ _ _ R5.out B5.out hgc).mono ?_; rintro e w6 ⟨rfl, hb6⟩; have B6 := Kept.mk (B5.out.trans (hb6.mono B5.out.size)); have X6 := Kept.mk (X5.out.trans (hb6.mono X5.out.size)); clear hb6) | (go_at_call_of 20 (Value.slice (some ⟨b, off, none⟩) l.length c); refine (CTk.out _ B6.out).mono ?_; rintro e w7 ⟨rfl, hb7⟩; have X7 := Kept.mk (X6.out.trans (hb7.mono X6.out.size)); clear hb7))
      go_meet
      case rel => exact ⟨rfl, X7⟩
    · have CF := Kept.mk (fun wx hx hb => by have := CQc.out g c' wx hx hb; rw [PC.out.2 (by omega)] at this; exact this)
      have u1 : decide ((0 : Int) < (k : Int)) = false := by simp; omega
      have u2 : ((k : Int) == 0) = true := by simp; omega
      go_wp2_with (first | (go_at_call 19; refine (CE.out _ B3.out).mono ?_; rintro e w4 ⟨rfl, hb4⟩; have B4 := Kept.mk (B3.out.trans (hb4.mono s3)); have R4 := Kept.mk (R3.out.below hb4); have X4 := Kept.mk hb4; clear hb4) | (go_at_call 9; refine (CF.out _ R4.out B4.out).mono ?_; rintro e w5 ⟨rfl, hb5⟩; have B5 := Kept.mk (B4.out.trans (hb5.mono B4.out.size)); have R5 := Kept.mk (R4.out.below hb5); have X5 := Kept.mk (X4.out.trans (hb5.mono X4.out.size)); clear hb5) | (go_at_call_of 20 (Value.slice (some ⟨g, 0, none⟩) m c'); refine (CQt.out _ _ _ R5.out B5.out hgc).mono ?_; rintro e w6 ⟨rfl, hb6⟩; have B6 := Kept.mk (B5.out.trans (hb6.mono B5.out.size)); have X6 := Kept.mk (X5.out.trans (hb6.mono X5.out.size)); clear hb6) | (go_at_call_of 20 (Value.slice (some ⟨b, off, none⟩) l.length c); refine (CTk.out _ B6.out).mono ?_; rintro e w7 ⟨rfl, hb7⟩; have X7 := Kept.mk (X6.out.trans (hb7.mono X6.out.size)); clear hb7))
      go_meet
      case rel => exact ⟨rfl, X7⟩
  case rest =>
    obtain ⟨rfl, X8⟩ := hcut
    have B8 := Kept.mk (B3.out.trans (X8.out.mono B3.out.size))
    have s8 := B8.out.size
    clear X8 O3 CC CE CPk CQf CQc CQt CA CK
    go_wp2_with (first | (go_at_call 21; refine (CAt.out _ B8.out).mono ?_; rintro e w9 ⟨va, rfl, hO9, hb9⟩; have O9 := Kept.mk (own_low hO9 s8); have B9 := Kept.mk (B8.out.trans (hb9.mono s8)); clear hO9 hb9) | (go_at_call 17; refine (CKi.out _ B9.out).mono ?_; rintro e w10 ⟨vk, rfl, hO10, hb10⟩; have O9' := Kept.mk (own_below O9.out hb10); have O10 := Kept.mk (own_low hO10 B9.out.size); have B10 := Kept.mk (B9.out.trans (hb10.mono B9.out.size)); clear hO10 hb10) | (at_builtin; refine wpList_append_ints rfl (.tmp 105) (.tmp 108) rfl w.heap.size w.heap.size va vk LA.length LB.length (ic LA) LB (by rfl) O9'.out (by rfl) O10.out (by rw [List.length_append] at hcl; omega) B10.out.size ?_; intro v11 w11 hO11 hg11; have B11 := Kept.mk (B10.out.grown hg11 B10.out.size (fun q hq => (O9'.out.lt q hq).1)); rw [← ic_append] at hO11; have O11 := Kept.mk hO11; clear hO11 hg11))
    obtain ⟨A1, c1, rfl⟩ := own_shape_i O11.out
    have hcl2 : LA.length + LB.length ≤ 600 := by rw [List.length_append] at hcl; omega
    go_loopw [7, 8, 10] (fun tot txt i wx => ∃ j : Nat, j ≤ LA.length + LB.length ∧ i = .int .i64 (j : Int) ∧ tot = .int .i64 (totS l (LA ++ LB) j : Int) ∧ txt = .string ⟨(totT l (LA ++ LB) j).toArray⟩ ∧ Kept (wx.ownsRow w.heap.size 3 1 (.slice A1 (LA.length + LB.length) c1) (LA.length + LB.length) (ic (LA ++ LB))) ∧ Kept (Below w.heap.size w wx)) (fun _ _ i _ => LA.length + LB.length - (intOf i).toNat)
    case atStart => exact ⟨0, by omega, rfl, by simp [totS, sumS], by simp [totT], O11, B11⟩
    case round =>
      obtain ⟨j, hj, rfl, rfl, rfl, HO, HB⟩ := hrel
      have s12 := HB.out.size
      have j0 : (0 : Int) ≤ (j : Int) := by omega
      by_cases hlt : j < LA.length + LB.length
      · have j1 : (j : Int) < (LA.length : Int) + (LB.length : Int) := by omega
        obtain ⟨x, hx⟩ : ∃ x, (LA ++ LB)[j]? = some x := ⟨_, List.getElem?_eq_getElem (by rw [List.length_append]; exact hlt)⟩
        obtain ⟨hkx, hxl⟩ := HML.out x (List.mem_of_getElem? hx)
        obtain ⟨gL, cL, hAL, _, _, _⟩ := own_block HO.out (by omega)
        obtain ⟨rfl, rfl⟩ : A1 = some ⟨gL, 0, none⟩ ∧ c1 = cL := by simpa using hAL
        have cx := own_at HO.out j (.int .i64 (x : Int)) (by unfold ic; rw [List.getElem?_map, hx]; rfl)
        have hS := totS_step (l := l) hx
        have hT := totT_step (l := l) hx
        have hSm := sumS_take l (LA ++ LB) (j + 1)
        have hT1 := T1.out
        have hbS : totS l (LA ++ LB) (j + 1) ≤ m := by unfold totS at hT1 ⊢; rw [List.take_length] at hT1; omega
        have hTl := HTL.out j (by rw [List.length_append]; omega)
        have hTx := textN_le HC.out x hxl hl
        have cpx := CP.out x hxl
        rw [part_of HC.out hxl, partN_len] at cpx
        have ctx := CT.out x hxl
        obtain ⟨d0, _⟩ := (HR.out.below HB.out).cells hxl
        simp only at d0
        have hTC : textC l x = if Ptr.kin l x = 4 ∨ Ptr.kin l x = 2 then textN l x else [] := rfl
        have f4 : (((Ptr.kin l x : Nat) : Int) == 4) = (Ptr.kin l x == 4) := beq_i _ 4
        have f2 : (((Ptr.kin l x : Nat) : Int) == 2) = (Ptr.kin l x == 2) := beq_i _ 2
        obtain ⟨yA, hyA⟩ : ∃ y : ByteArray, y = ⟨(totT l (LA ++ LB) j).toArray⟩ := ⟨_, rfl⟩
        obtain ⟨yX, hyX⟩ : ∃ y : ByteArray, y = ⟨(textN l x).toArray⟩ := ⟨_, rfl⟩
        rw [← hyX] at ctx
        rw [← hyA]
        have hAX : yA ++ yX = ⟨(totT l (LA ++ LB) j ++ textN l x).toArray⟩ := by
          rw [hyA, hyX]
          apply ByteArray.ext
          rw [ByteArray.data_append]
          apply Array.toList_inj.1
          simp
        have zA : yA.size = (totT l (LA ++ LB) j).length := by rw [hyA]; show (totT l (LA ++ LB) j).toArray.size = _; simp
        have zX : yX.size = (textN l x).length := by rw [hyX]; show (textN l x).toArray.size = _; simp
        have zz : yA.size + yX.size ≤ 1000000000000 := by
          rw [zA, zX]
          have h6 : j ≤ 600 := by rw [List.length_append] at hcl; omega
          have : j * (300 * 65536) ≤ 600 * (300 * 65536) := Nat.mul_le_mul_right _ h6
          omega
        rw [hS] at hbS
        have x0 : (0 : Int) ≤ (x : Int) := by omega
        have x1 : (x : Int) < (l.length : Int) := by omega
        generalize Ptr.kin l x = KX at d0 f4 f2 hTC
        generalize Ptr.endN l x - x = sx at cpx hS hbS
        generalize partN l x = PX at cpx
        generalize totS l (LA ++ LB) j = TS at hS hbS ⊢
        have y0 : (0 : Int) ≤ (TS : Int) := by omega
        have y1 : (TS : Int) + (sx : Int) ≤ 300 := by omega
        have HS := Kept.mk hS; have HTT := Kept.mk hT; have HTC := Kept.mk hTC; have HAX := Kept.mk hAX; have HYA := Kept.mk hyA
        have CPX := Kept.mk cpx; have CTX := Kept.mk ctx; have CX := Kept.mk cx; have D0 := Kept.mk d0
        clear hS hT hTC hAX hyA hyX cpx ctx d0 hx hSm hT1 hTl hTx zA zX hAL
        by_cases k4 : KX = 4
        · subst k4
          go_wp2_with (first | (go_at_call 18; refine (CPX.out _ HB.out).mono ?_; rintro e w12 ⟨vp, rfl, hO12, hb12⟩; obtain ⟨Ap, cp, rfl⟩ := own_shape_x hO12; have B12 := Kept.mk (HB.out.trans (hb12.mono s12)); have O12 := Kept.mk (own_below HO.out hb12); have cx2 := cell_keep hb12 CX.out; have d02 := cell_keep hb12 D0.out; clear hO12 hb12) | (go_at_call 20; refine (CTX.out _ B12.out).mono ?_; rintro e w13 ⟨rfl, hb13⟩; have B13 := Kept.mk (B12.out.trans (hb13.mono B12.out.size)); have O13 := Kept.mk (own_below O12.out hb13); clear hb13))
          go_roundw
          case rel => exact ⟨j + 1, by omega, by go_num, by rw [HS.out]; go_num, by rw [HTT.out, HTC.out, if_pos (by simp), ← HAX.out], O13, B13⟩
          case measure => simp [intOf]; omega
        · have f4' : ((KX : Int) == 4) = false := by rw [f4]; simpa using k4
          clear f4
          by_cases k2 : KX = 2
          · subst k2
            clear f2
            go_wp2_with (first | (go_at_call 18; refine (CPX.out _ HB.out).mono ?_; rintro e w12 ⟨vp, rfl, hO12, hb12⟩; obtain ⟨Ap, cp, rfl⟩ := own_shape_x hO12; have B12 := Kept.mk (HB.out.trans (hb12.mono s12)); have O12 := Kept.mk (own_below HO.out hb12); have cx2 := cell_keep hb12 CX.out; have d02 := cell_keep hb12 D0.out; clear hO12 hb12) | (go_at_call 20; refine (CTX.out _ B12.out).mono ?_; rintro e w13 ⟨rfl, hb13⟩; have B13 := Kept.mk (B12.out.trans (hb13.mono B12.out.size)); have O13 := Kept.mk (own_below O12.out hb13); clear hb13))
            go_roundw
            case rel => exact ⟨j + 1, by omega, by go_num, by rw [HS.out]; go_num, by rw [HTT.out, HTC.out, if_pos (by simp), ← HAX.out], O13, B13⟩
            case measure => simp [intOf]; omega
          · have f2' : ((KX : Int) == 2) = false := by rw [f2]; simpa using k2
            clear f2
            go_wp2_with (first | (go_at_call 18; refine (CPX.out _ HB.out).mono ?_; rintro e w12 ⟨vp, rfl, hO12, hb12⟩; obtain ⟨Ap, cp, rfl⟩ := own_shape_x hO12; have B12 := Kept.mk (HB.out.trans (hb12.mono s12)); have O12 := Kept.mk (own_below HO.out hb12); have cx2 := cell_keep hb12 CX.out; have d02 := cell_keep hb12 D0.out; clear hO12 hb12))
            go_roundw
            case rel => exact ⟨j + 1, by omega, by go_num, by rw [HS.out]; go_num, by rw [HTT.out, HTC.out, if_neg (by omega), List.append_nil, HYA.out], O12, B12⟩
            case measure => simp [intOf]; omega
      · obtain rfl : j = LA.length + LB.length := by omega
        have j1 : ¬ (LA.length : Int) + (LB.length : Int) < (LA.length : Int) + (LB.length : Int) := by omega
        have t1 := T1.out
        have t2 := T2.out
        have t4 := T4.out
        rw [List.length_append] at t1 t2
        rw [t1]
        have ck0 := cell_keep HB.out CK0.out
        by_cases k12 : K = 1 ∨ K = 2
        · rw [t2 k12, ← HYT.out]
          clear t1 t2 t4
          rcases k12 with rfl | rfl
          all_goals
            go_wp2_with (go_at_call 20; refine (CTk.out _ HB.out).mono ?_; rintro e w13 ⟨rfl, hb13⟩; have B13 := Kept.mk (HB.out.trans (hb13.mono s12)); clear hb13)
            go_ret
            exact ⟨rfl, B13.out⟩
        · have f1 : ((K : Int) == 1) = false := by simp; omega
          have f2 : ((K : Int) == 2) = false := by simp; omega
          have t4' := congrArg List.length (t4 (by omega) (by omega))
          rw [List.length_append, List.length_nil] at t4'
          have f0 : ((LA.length : Int) + (LB.length : Int) == 0) = true := by simp; omega
          clear t1 t2 t4 t4'
          go_wp2
          go_ret
          exact ⟨rfl, HB.out⟩
theorem law_cuts (A : Option Addr) (l : List Ptr.Nd) (c : Nat) (a : Int) (w : World) (hr : RdN w A l) (hc : l.length ≤ c) (hf : FitP l) (hE : TEnv w) :
    Calls Tryd.prog 6 #[.slice A l.length c, .int .i64 a] w fun e w' => e = .returned (.bool true) ∧ Below w.heap.size w w' := by
  by_cases hno : 300 < l.length ∨ Ptr.chk l true ≠ 0
  · exact cuts_no A l c a w hr hf hE hno
  · have hl : l.length ≤ 300 := by omega
    have hC : Ptr.chk l true = 0 := by omega
    by_cases h3 : Ptr.kin l (pickV a l.length) = 3
    · exact cuts_attr A l c a w hr hc hf hE hl hC h3
    · exact cuts_node A l c a w hr hc hf hE hl hC h3
end Go.Proofs.YtkcpfjhdbbapiaaDoor.Wtr
