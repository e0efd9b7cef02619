/- Plain: a tree with one kind of line ends: it is right, it is read as itself, it is printed in no more bytes; a text without carriage returns is that of such a tree (chapter 08). -/
import Derived.Test.YtemfmidhekdekaaGreatDoorPrA
namespace Go.Proofs.YtemfmidhekdekaaGreatDoor.Ppa
open Go Go.Lib Go.Proofs.YtemfmidhekdekaaGreatDoor.Ptr Go.Proofs.YtemfmidhekdekaaGreatDoor.Wps Go.Proofs.YtemfmidhekdekaaGreatDoor.Ppr

theorem said_no13 : ∀ (n : Nat) (v : Bs), v.length ≤ n → (13 : UInt8) ∉ said v
  | _, [], _ => by simp [said]
  | 0, _ :: _, h => by simp at h
  | n + 1, x :: t, h => by
    by_cases h13 : x = 13
    · subst h13
      by_cases h10 : t.head? = some 10
      · obtain ⟨u, rfl⟩ := head_cons h10
        rw [said_two]
        have := said_no13 n u (by simp at h; omega)
        simpa using this
      · rw [said_one h10]
        have := said_no13 n t (by simpa using h)
        simpa using this
    · rw [said_other h13]
      have := said_no13 n t (by simpa using h)
      simp only [List.mem_cons, not_or]
      exact ⟨fun e => h13 e.symm, this⟩
theorem said_id : ∀ v : Bs, (13 : UInt8) ∉ v → said v = v
  | [], _ => rfl
  | x :: t, h => by
    simp only [List.mem_cons, not_or] at h
    rw [said_other (fun e => h.1 e.symm), said_id t h.2]
theorem said_said (v : Bs) : said (said v) = said v := said_id _ (said_no13 _ v (Nat.le_refl _))
theorem lin_lin (k : Nat) (v : Bs) : linV k (linV k v) = linV k v := by
  unfold linV
  split
  · exact said_said v
  · rfl
theorem lin_len (k : Nat) (v : Bs) : (linV k v).length ≤ v.length := by
  unfold linV
  split
  · exact said_length v
  · exact Nat.le_refl _
theorem lin_nil (k : Nat) (v : Bs) : linV k v = [] ↔ v = [] := by
  unfold linV
  split
  · constructor
    · intro h
      cases v with
      | nil => rfl
      | cons x t =>
        exfalso
        by_cases h13 : x = 13
        · subst h13
          by_cases h10 : t.head? = some 10
          · obtain ⟨u, rfl⟩ := head_cons h10
            rw [said_two] at h
            cases h
          · rw [said_one h10] at h
            cases h
        · rw [said_other h13] at h
          cases h
    · intro h
      rw [h]
      rfl
  · exact Iff.rfl
section
variable (l : List Nd)
theorem lines_len : (linesN l).length = l.length := by unfold linesN; rw [seg_len]; omega
theorem lines_get {k : Nat} (hk : k < l.length) : (linesN l)[k]? = some (kin l k, nam l k, linV (kin l k) (val l k), par l k) := by
  unfold linesN seg
  rw [List.getElem?_map, Nat.sub_zero, List.getElem?_range' (by omega)]
  show some (ndO l 0 (0 + 1 * k)) = _
  rw [show 0 + 1 * k = k by omega]
  unfold ndO
  rw [Int.sub_zero]
theorem lines_d {k : Nat} (hk : l.length ≤ k) : (linesN l)[k]? = none := List.getElem?_eq_none (by rw [lines_len]; exact hk)
theorem lines_kin : kin (linesN l) = kin l := by
  funext k
  rcases Nat.lt_or_ge k l.length with h | h
  · show ((linesN l).getD k nd0).1 = _
    rw [List.getD_eq_getElem?_getD, lines_get l h]
    rfl
  · unfold kin
    rw [List.getD_eq_getElem?_getD, lines_d l h, List.getD_eq_getElem?_getD, List.getElem?_eq_none h]
theorem lines_nam : nam (linesN l) = nam l := by
  funext k
  rcases Nat.lt_or_ge k l.length with h | h
  · show ((linesN l).getD k nd0).2.1 = _
    rw [List.getD_eq_getElem?_getD, lines_get l h]
    rfl
  · unfold nam
    rw [List.getD_eq_getElem?_getD, lines_d l h, List.getD_eq_getElem?_getD, List.getElem?_eq_none h]
theorem lines_par : par (linesN l) = par l := by
  funext k
  rcases Nat.lt_or_ge k l.length with h | h
  · show ((linesN l).getD k nd0).2.2.2 = _
    rw [List.getD_eq_getElem?_getD, lines_get l h]
    rfl
  · unfold par
    rw [List.getD_eq_getElem?_getD, lines_d l h, List.getD_eq_getElem?_getD, List.getElem?_eq_none h]
theorem lines_val (k : Nat) : val (linesN l) k = linV (kin l k) (val l k) := by
  rcases Nat.lt_or_ge k l.length with h | h
  · show ((linesN l).getD k nd0).2.2.1 = _
    rw [List.getD_eq_getElem?_getD, lines_get l h]
    rfl
  · unfold val kin
    rw [List.getD_eq_getElem?_getD, lines_d l h, List.getD_eq_getElem?_getD, List.getElem?_eq_none h]
    rfl
theorem lines_lines : linesN (linesN l) = linesN l := by
  apply List.ext_getElem?
  intro k
  rcases Nat.lt_or_ge k l.length with h | h
  · rw [lines_get (linesN l) (by rw [lines_len]; exact h), lines_get l h, lines_kin, lines_nam, lines_par, lines_val, lin_lin]
  · rw [lines_d l h, lines_d (linesN l) (by rw [lines_len]; exact h)]
theorem lines_same (h : ∀ k, k < l.length → linV (kin l k) (val l k) = val l k) : linesN l = l := by
  apply List.ext_getElem?
  intro k
  rcases Nat.lt_or_ge k l.length with hk | hk
  · rw [lines_get l hk, h k hk, List.getElem?_eq_getElem hk]
    unfold kin nam val par
    rw [List.getD_eq_getElem?_getD, List.getElem?_eq_getElem hk]
    rfl
  · rw [lines_d l hk, List.getElem?_eq_none hk]
/-! ### it is right -/
theorem lines_chain (q : Int) : ∀ (f : Nat) (p : Int), chain (linesN l) q f p = chain l q f p
  | 0, _ => rfl
  | f + 1, p => by rw [chain_at, chain_at, lines_par, lines_chain q f]
theorem lines_open (i : Nat) : openB (linesN l) i = openB l i := by unfold openB; rw [lines_par, lines_chain]
theorem lines_last (q : Int) : ∀ i, lastC (linesN l) q i = lastC l q i
  | 0 => rfl
  | i + 1 => by rw [lastC_step, lastC_step, lines_par, lines_kin, lines_last q i]
theorem lines_free (x : Bs) (a : Nat) : ∀ i, freeB (linesN l) x a i = freeB l x a i
  | 0 => rfl
  | i + 1 => by rw [freeB_step, freeB_step, lines_nam, lines_free x a i]
theorem lines_dep : ∀ (f i : Nat), dep (linesN l) f i = dep l f i
  | 0, _ => rfl
  | f + 1, i => by rw [dep, dep, lines_kin, lines_par, lines_dep f]
theorem lines_tops : ∀ n, tops (linesN l) n = tops l n
  | 0 => rfl
  | n + 1 => by
    show tops (linesN l) n + (if par (linesN l) n < 0 then 1 else 0) = tops l n + _
    rw [lines_tops n, lines_par]
theorem lines_elems : ∀ n, elems (linesN l) n = elems l n
  | 0 => rfl
  | n + 1 => by
    show elems (linesN l) n + (if kin (linesN l) n = 2 ∧ par (linesN l) n = 0 then 1 else 0) = elems l n + _
    rw [lines_elems n, lines_par, lines_kin]
theorem lines_deepest : ∀ n, deepest (linesN l) n = deepest l n
  | 0 => rfl
  | n + 1 => by
    show (if kin (linesN l) n = 2 then max (deepest (linesN l) n) (dep (linesN l) (n + 1) n) else deepest (linesN l) n) = (if kin l n = 2 then max (deepest l n) (dep l (n + 1) n) else deepest l n)
    rw [lines_deepest n, lines_kin, lines_dep]
theorem lines_fits {i : Nat} (h : fitsB l i = true) : fitsB (linesN l) i = true := by
  unfold fitsB at h ⊢
  rw [Bool.and_eq_true, Bool.and_eq_true, decide_eq_true_eq] at h
  obtain ⟨⟨h1, h2⟩, h3⟩ := h
  have hl := lin_len (kin l i) (val l i)
  have ht : Pch.textsL (linV (kin l i) (val l i)) = true := by
    unfold linV
    split
    · exact said_ok h1
    · exact h1
  rw [lines_val, ht, decide_eq_true (Nat.le_trans hl h2), Bool.true_and, Bool.true_and]
  unfold fitsK at h3 ⊢
  unfold insideB elemB underB at h3 ⊢
  rw [lines_kin, lines_par, lines_nam, lines_last, lines_free, lines_val]
  by_cases k2 : kin l i = 2
  · rw [if_pos k2] at h3 ⊢
    have e : linV (kin l i) (val l i) = val l i := by unfold linV; rw [if_neg (by omega)]
    rw [e]
    exact h3
  · rw [if_neg k2] at h3 ⊢
    by_cases k3 : kin l i = 3
    · rw [if_pos k3] at h3 ⊢
      exact h3
    · rw [if_neg k3] at h3 ⊢
      by_cases k4 : kin l i = 4
      · rw [if_pos k4] at h3 ⊢
        have e : linV (kin l i) (val l i) = val l i := by unfold linV; rw [if_neg (by omega)]
        rw [e]
        exact h3
      · rw [if_neg k4] at h3 ⊢
        by_cases k5 : kin l i = 5
        · rw [if_pos k5] at h3 ⊢
          have e : linV (kin l i) (val l i) = said (val l i) := by unfold linV; rw [if_pos (.inl k5)]
          rw [e]
          simp only [Bool.and_eq_true, Bool.not_eq_true', decide_eq_false_iff_not] at h3 ⊢
          obtain ⟨⟨⟨a, b⟩, c⟩, d⟩ := h3
          have hs : has2 45 45 (val l i ++ [45]) = false := by
            have key : ∀ u : Bs, has2 45 45 u = false → u.getLast? ≠ some 45 → has2 45 45 (u ++ [45]) = false := by
              intro u
              induction u with
              | nil => intro _ _; rfl
              | cons x t ih =>
                intro h1 h2
                rw [has2_cons, Bool.or_eq_false_iff] at h1
                cases t with
                | nil =>
                  have : x ≠ 45 := fun e => h2 (by rw [e]; rfl)
                  show has2 45 45 (x :: [45]) = false
                  rw [has2_cons]
                  have e1 : (x == 45) = false := by simpa using this
                  rw [e1]
                  rfl
                | cons y u =>
                  rw [List.getLast?_cons_cons] at h2
                  rw [List.cons_append, has2_cons, ih h1.2 h2, Bool.or_false]
                  exact h1.1
            exact key _ c d
          have h5 := said_has2 (a := 45) (b := 45) (by decide) (by decide) _ _ (Nat.le_refl _) hs
          rw [said_snoc (by decide) (by decide) _ _ (Nat.le_refl _)] at h5
          obtain ⟨e1, e2⟩ := has2_snoc _ h5
          exact ⟨⟨⟨a, b⟩, e1⟩, fun e => e2 ⟨e, rfl⟩⟩
        · rw [if_neg k5] at h3 ⊢
          by_cases k6 : kin l i = 6
          · rw [if_pos k6] at h3 ⊢
            have e : linV (kin l i) (val l i) = said (val l i) := by unfold linV; rw [if_pos (.inr k6)]
            rw [e]
            simp only [Bool.and_eq_true, Bool.not_eq_true'] at h3 ⊢
            obtain ⟨⟨⟨⟨a, b⟩, c⟩, d⟩, f⟩ := h3
            refine ⟨⟨⟨⟨a, b⟩, c⟩, said_has2 (by decide) (by decide) _ _ (Nat.le_refl _) d⟩, ?_⟩
            cases hv : val l i with
            | nil => rfl
            | cons x u =>
              rw [hv] at f
              have hx : Pch.blankC x = false := by
                have : (!Pch.blankC x) = true := f
                simpa using this
              have h13 : x ≠ 13 := fun e => by rw [e] at hx; revert hx; decide
              rw [said_other h13]
              show (!Pch.blankC x) = true
              rw [hx]
              rfl
          · rw [if_neg k6] at h3
            cases h3
theorem lines_allB {root : Bool} : ∀ n, allB l root n = true → allB (linesN l) root n = true
  | 0, _ => rfl
  | n + 1, h => by
    unfold allB at h ⊢
    rw [Bool.and_eq_true] at h
    rw [lines_allB n h.1, Bool.true_and]
    have hg := h.2
    unfold good at hg ⊢
    rw [lines_open]
    rw [Bool.and_eq_true] at hg ⊢
    refine ⟨hg.1, ?_⟩
    have hg := hg.2
    split at hg
    · rename_i e
      rw [if_pos e]
      unfold headB at hg ⊢
      rw [lines_kin, lines_nam, lines_val]
      simp only [Bool.and_eq_true, decide_eq_true_eq] at hg ⊢
      exact ⟨hg.1, (lin_nil _ _).2 hg.2⟩
    · rename_i e
      rw [if_neg e]
      exact lines_fits l hg
theorem lines_chk {root : Bool} (h : chk l root = 0) : chk (linesN l) root = 0 := by
  obtain ⟨a, b, c, d⟩ := chk_inv h
  have hb := lines_allB l _ b
  unfold chk
  rw [lines_len, if_neg (by omega), hb, if_neg (by simp), lines_tops, lines_elems, lines_deepest, if_neg (by
    rintro ⟨hr, hc⟩
    have := c hr
    omega), if_neg (by omega)]
/-! ### its text -/
theorem lines_childs (i : Nat) : childs (linesN l) i = childs l i := by unfold childs kidsL; rw [lines_par, lines_kin, lines_len]
theorem lines_run (i : Nat) : Ppr.runN (linesN l) i = Ppr.runN l i := by
  have key : ∀ f k, Ppr.runF (linesN l) i f k = Ppr.runF l i f k := by
    intro f
    induction f with
    | zero => intro k; rfl
    | succ f ih => intro k; unfold Ppr.runF; rw [lines_len, lines_kin, lines_par, ih]
  unfold Ppr.runN
  rw [lines_len, key]
theorem flat_le {α : Type} {f g : α → Bs} : ∀ {L : List α}, (∀ x ∈ L, (f x).length ≤ (g x).length) → (L.flatMap f).length ≤ (L.flatMap g).length
  | [], _ => Nat.le_refl _
  | x :: L, h => by
    rw [List.flatMap_cons, List.flatMap_cons, List.length_append, List.length_append]
    have a := h x (by simp)
    have b := flat_le (f := f) (g := g) (L := L) fun y hy => h y (by simp [hy])
    omega
theorem lines_pr : ∀ (f i : Nat), (prF (linesN l) f i).length ≤ (prF l f i).length
  | 0, _ => Nat.le_refl _
  | f + 1, i => by
    have hk : ((childs l i).flatMap (prF (linesN l) f)).length ≤ ((childs l i).flatMap (prF l f)).length := flat_le fun j _ => lines_pr f j
    have ha : ((List.range' (i + 1) (Ppr.runN l i - (i + 1))).flatMap (fun j => 32 :: prF (linesN l) f j)).length ≤ ((List.range' (i + 1) (Ppr.runN l i - (i + 1))).flatMap (fun j => 32 :: prF l f j)).length := flat_le fun j _ => by
      have := lines_pr f j
      simpa using this
    have hv := lin_len (kin l i) (val l i)
    have hn := lin_nil (kin l i) (val l i)
    unfold prF
    rw [lines_kin, lines_nam, lines_val, lines_childs, lines_run]
    by_cases k3 : kin l i = 3
    · rw [if_pos k3, if_pos k3]
      unfold linV
      rw [if_neg (by omega)]
      exact Nat.le_refl _
    · rw [if_neg k3, if_neg k3]
      by_cases k4 : kin l i = 4
      · rw [if_pos k4, if_pos k4]
        unfold linV
        rw [if_neg (by omega)]
        exact Nat.le_refl _
      · rw [if_neg k4, if_neg k4]
        by_cases k5 : kin l i = 5
        · rw [if_pos k5, if_pos k5]
          simp only [List.length_append]
          omega
        · rw [if_neg k5, if_neg k5]
          by_cases k6 : kin l i = 6
          · rw [if_pos k6, if_pos k6]
            by_cases he : val l i = []
            · rw [if_pos he, if_pos (hn.2 he)]
              exact Nat.le_refl _
            · rw [if_neg he, if_neg (fun e => he (hn.1 e))]
              simp only [List.length_append, List.length_cons]
              omega
          · rw [if_neg k6, if_neg k6]
            by_cases k1 : kin l i = 1
            · rw [if_pos k1, if_pos k1]
              exact hk
            · rw [if_neg k1, if_neg k1]
              by_cases hc : childs l i = []
              · rw [if_pos hc, if_pos hc]
                simp only [List.length_append, List.length_cons]
                omega
              · rw [if_neg hc, if_neg hc]
                simp only [List.length_append, List.length_cons]
                omega
theorem lines_prN (i : Nat) : (prN (linesN l) i).length ≤ (prN l i).length := by
  unfold prN
  rw [lines_len]
  exact lines_pr l l.length i
end
/-! ### no carriage return -/
section
variable {l : List Nd} {root : Bool} (hA : allB l root l.length = true)
include hA
theorem cr_kids {i : Nat} (hi : i < l.length) (ih : ∀ j, i < j → j < l.length → kin l j = 2 → ∀ k, j < k → k < endN l j → (kin l k = 5 ∨ kin l k = 6) → (13 : UInt8) ∈ val l k → (13 : UInt8) ∈ prN l j) :
    ∀ (m k0 : Nat) (V : List Nat), Kid l i k0 V → l.length - k0 ≤ m → ∀ k, k0 ≤ k → k < endN l i → (kin l k = 5 ∨ kin l k = 6) → (13 : UInt8) ∈ val l k → (13 : UInt8) ∈ (kidsFrom l i k0).flatMap (prN l) := by
  intro m
  induction m with
  | zero =>
    intro k0 V hk hm k h1 h2 _ _
    have := hk.hi
    have := (endN_spec l i hi).2.1
    omega
  | succ m ihm =>
    intro k0 V hk hm k h1 h2 h56 h13
    by_cases hstop : k0 = l.length ∨ par l k0 ≠ i
    · have := (kid_stop hA hk hstop).2
      omega
    · have hkl : k0 < l.length := by
        have := hk.hi
        rcases Nat.lt_or_ge k0 l.length with e | e
        · exact e
        · exact absurd (.inl (by omega)) hstop
      have hp : par l k0 = i := Classical.byContradiction fun e => hstop (.inr e)
      have hlo := hk.lo
      have hend := endN_spec l k0 hkl
      rw [kidsFrom_at hA hkl hp, List.flatMap_cons, List.mem_append]
      by_cases hin : k < endN l k0
      · refine .inl ?_
        by_cases e : k = k0
        · subst e
          rw [prN_at (tree_rng hA) hkl]
          rcases h56 with h5 | h6
          · rw [if_neg (by omega), if_neg (by omega), if_pos h5]
            simp [h13]
          · rw [if_neg (by omega), if_neg (by omega), if_neg (by omega), if_pos h6]
            have hv : val l k ≠ [] := by intro e; rw [e] at h13; cases h13
            rw [if_neg hv]
            simp [h13]
        · have hk2 : kin l k0 = 2 := by
            apply Classical.byContradiction
            intro hne
            by_cases h1' : kin l k0 = 1
            · -- a root has no parent
              have hf := fit_at hA hkl (par_pos hA hkl hp)
              unfold fitsK at hf
              rw [if_neg hne, if_neg (by omega), if_neg (by omega), if_neg (by omega), if_neg (by omega)] at hf
              cases hf
            · have := end_leaf hA hkl h1' hne
              omega
          exact ih k0 hlo hkl hk2 k (by omega) hin h56 h13
      · exact .inr (ihm (endN l k0) _ (kid_step hA hk hkl hp) (by omega) k (by omega) h2 h56 h13)
theorem cr_elem : ∀ (n i : Nat), l.length - i ≤ n → i < l.length → kin l i = 2 → ∀ k, i < k → k < endN l i → (kin l k = 5 ∨ kin l k = 6) → (13 : UInt8) ∈ val l k → (13 : UInt8) ∈ prN l i := by
  intro n
  induction n with
  | zero => intro i h1 h2; omega
  | succ n ih =>
    intro i h1 hi h2 k hk1 hk2 h56 h13
    obtain ⟨s1, s2, s3, s4⟩ := runN_spec l i hi
    have hrun : Ppr.runN l i ≤ k := by
      apply Classical.byContradiction
      intro hc
      have := (s3 k hk1 (by omega)).1
      omega
    have hkid := kid_attrs hA hi
    have hm := cr_kids hA hi (fun j hj hjl hj2 => ih j (by omega) hjl hj2) _ _ _ hkid (Nat.le_refl _) k hrun hk2 h56 h13
    have hrest := hkid.rest
    rw [List.nil_append] at hrest
    rw [← hrest] at hm
    have hc : childs l i ≠ [] := by intro e; rw [e] at hm; cases hm
    rw [pr_elem hA hi h2]
    unfold elT
    rw [if_neg hc]
    simp only [List.mem_cons, List.mem_append]
    exact .inr (.inr (.inr (.inl hm)))
end
theorem cr_doc {l : List Nd} (h : chk l true = 0) (h13 : (13 : UInt8) ∉ prN l 0) : linesN l = l := by
  obtain ⟨hl, hA, hr, hd⟩ := chk_inv h
  obtain ⟨ht, he⟩ := hr rfl
  have h0 : 0 < l.length := by
    rcases Nat.eq_zero_or_pos l.length with e | e
    · rw [e] at he; cases he
    · exact e
  have hk0 := root_one hA h0
  refine lines_same l fun k hk => ?_
  unfold linV
  split
  · rename_i h56
    refine said_id _ fun hm => h13 ?_
    have hk1 : 0 < k := by
      rcases Nat.eq_zero_or_pos k with e | e
      · subst e; omega
      · exact e
    have hkid := kid_root hA h0 (by rw [hk0]; decide)
    have hend : endN l 0 = l.length := by
      obtain ⟨a1, a2, a3, a4⟩ := endN_spec l 0 h0
      apply Classical.byContradiction
      intro hne
      have := a4 (by omega)
      have := one_top (tree_rng hA) ht (endN l 0) (by omega) (by omega)
      omega
    have := cr_kids hA h0 (fun j _ hjl hj2 => cr_elem hA _ j (Nat.le_refl _) hjl hj2) _ _ _ hkid (Nat.le_refl _) k (by omega) (by omega) h56 hm
    rw [kids_one hA h0]
    exact this
  · rfl
end Go.Proofs.YtemfmidhekdekaaGreatDoor.Ppa
