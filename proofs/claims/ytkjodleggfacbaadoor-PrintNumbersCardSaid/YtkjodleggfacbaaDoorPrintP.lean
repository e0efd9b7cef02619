/- Plain: a tree as XML (chapter 08): the document's way and the program's are one; no program in sight. -/
import Derived.Test.YtkjodleggfacbaaDoorTreeGoP
namespace Go.Proofs.YtkjodleggfacbaaDoor.Ppr
open Go Go.Proofs.YtkjodleggfacbaaDoor.Ptr

/-- how a text's character is written, if otherwise -/
def textC (c : UInt8) : List UInt8 := if c = 38 then [38, 97, 109, 112, 59] else if c = 60 then [38, 108, 116, 59] else if c = 62 then [38, 103, 116, 59] else if c = 13 then [38, 35, 49, 51, 59] else []
/-- how a value's is -/
def valueC (c : UInt8) : List UInt8 := if c = 34 then [38, 113, 117, 111, 116, 59] else if c = 9 then [38, 35, 57, 59] else if c = 10 then [38, 35, 49, 48, 59] else if c = 62 then [] else textC c
def putC (h : UInt8 → List UInt8) (c : UInt8) : List UInt8 := if h c = [] then [c] else h c
def putL (h : UInt8 → List UInt8) (s : List UInt8) : List UInt8 := s.flatMap (putC h)
def escL (s : List UInt8) : List UInt8 := putL textC s
def quoL (s : List UInt8) : List UInt8 := 34 :: (putL valueC s ++ [34])
theorem putL_snoc (h : UInt8 → List UInt8) (s : List UInt8) (c : UInt8) : putL h (s ++ [c]) = putL h s ++ putC h c := by simp [putL]
theorem textC_len (c : UInt8) : (textC c).length ≤ 6 := by
  unfold textC
  repeat' split
  all_goals simp
theorem valueC_len (c : UInt8) : (valueC c).length ≤ 6 := by
  unfold valueC textC
  repeat' split
  all_goals simp
theorem putC_len {h : UInt8 → List UInt8} (hh : ∀ c, (h c).length ≤ 6) (c : UInt8) : (putC h c).length ≤ 6 := by
  unfold putC
  split
  · simp
  · exact hh c
theorem putL_len {h : UInt8 → List UInt8} (hh : ∀ c, (h c).length ≤ 6) (s : List UInt8) : (putL h s).length ≤ 6 * s.length := by
  induction s with
  | nil => simp [putL]
  | cons c s ih =>
    have := putC_len hh c
    simp only [putL, List.flatMap_cons, List.length_append, List.length_cons] at ih ⊢
    omega
/-- the place behind a node's attributes -/
def runF (l : List Nd) (i : Nat) : Nat → Nat → Nat
  | 0, k => k
  | f + 1, k => if k < l.length ∧ kin l k = 3 ∧ par l k = i then runF l i f (k + 1) else k
def runN (l : List Nd) (i : Nat) : Nat := runF l i l.length (i + 1)
theorem runF_spec (l : List Nd) (i : Nat) : ∀ f k, k ≤ l.length → l.length ≤ k + f → k ≤ runF l i f k ∧ runF l i f k ≤ l.length ∧ (∀ j : Nat, k ≤ j → j < runF l i f k → kin l j = 3 ∧ par l j = i) ∧ (runF l i f k < l.length → ¬ (kin l (runF l i f k) = 3 ∧ par l (runF l i f k) = i))
  | 0, k, h, h2 => ⟨Nat.le_refl _, h, fun j h3 h4 => by unfold runF at h4; omega, fun h3 => by unfold runF at h3; omega⟩
  | f + 1, k, h, h2 => by
    unfold runF
    split
    · rename_i h3
      obtain ⟨a, b, c, d⟩ := runF_spec l i f (k + 1) (by omega) (by omega)
      refine ⟨by omega, b, fun j hj hj2 => ?_, d⟩
      by_cases e : j = k
      · subst e; exact h3.2
      · exact c j (by omega) hj2
    · rename_i h3
      exact ⟨Nat.le_refl _, h, fun j hj hj2 => by omega, fun hk e => h3 ⟨hk, e⟩⟩
theorem runN_spec (l : List Nd) (i : Nat) (h : i < l.length) : i < runN l i ∧ runN l i ≤ l.length ∧ (∀ j : Nat, i < j → j < runN l i → kin l j = 3 ∧ par l j = i) ∧ (runN l i < l.length → ¬ (kin l (runN l i) = 3 ∧ par l (runN l i) = i)) := by
  obtain ⟨a, b, c, d⟩ := runF_spec l i l.length (i + 1) (by omega) (by omega)
  exact ⟨a, b, fun j h1 h2 => c j h1 h2, d⟩
/-- the children that are no attributes -/
def childs (l : List Nd) (i : Nat) : List Nat := kidsL l i false 0 l.length
/-- what stands of a node in text -/
def prF (l : List Nd) : Nat → Nat → List UInt8
  | 0, _ => []
  | f + 1, i =>
    if kin l i = 3 then nam l i ++ 61 :: quoL (val l i)
    else if kin l i = 4 then escL (val l i)
    else if kin l i = 5 then [60, 33, 45, 45] ++ val l i ++ [45, 45, 62]
    else if kin l i = 6 then [60, 63] ++ nam l i ++ (if val l i = [] then [] else 32 :: val l i) ++ [63, 62]
    else if kin l i = 1 then (childs l i).flatMap (prF l f)
    else 60 :: nam l i ++ (List.range' (i + 1) (runN l i - (i + 1))).flatMap (fun j => 32 :: prF l f j) ++ (if childs l i = [] then [47, 62] else 62 :: ((childs l i).flatMap (prF l f) ++ ([60, 47] ++ nam l i ++ [62])))
def prN (l : List Nd) (i : Nat) : List UInt8 := prF l l.length i
theorem childs_mem {l : List Nd} (hr : Rng l l.length) {i j : Nat} (h : j ∈ childs l i) : i < j ∧ j < l.length := by
  unfold childs kidsL at h
  obtain ⟨h1, h2⟩ := List.mem_filter.1 h
  have h3 := List.mem_range'_1.1 h1
  simp only [Bool.and_eq_true, decide_eq_true_eq] at h2
  have := hr j (by omega)
  omega
theorem flatMap_congr' {α β : Type} {f g : α → List β} : ∀ {L : List α}, (∀ x ∈ L, f x = g x) → L.flatMap f = L.flatMap g
  | [], _ => rfl
  | x :: L, h => by
    rw [List.flatMap_cons, List.flatMap_cons, h x (List.mem_cons_self ..), flatMap_congr' (fun y hy => h y (List.mem_cons_of_mem _ hy))]
theorem prF_fuel {l : List Nd} (hr : Rng l l.length) : ∀ (f g i : Nat), i < l.length → l.length ≤ i + f → l.length ≤ i + g → prF l f i = prF l g i
  | 0, _, i, hi, hf, _ => by omega
  | f + 1, 0, i, hi, _, hg => by omega
  | f + 1, g + 1, i, hi, hf, hg => by
    have key : ∀ j, i < j → j < l.length → prF l f j = prF l g j := fun j h1 h2 => prF_fuel hr f g j h2 (by omega) (by omega)
    have k1 : (childs l i).flatMap (prF l f) = (childs l i).flatMap (prF l g) := flatMap_congr' fun j hj => key j (childs_mem hr hj).1 (childs_mem hr hj).2
    have k2 : (List.range' (i + 1) (runN l i - (i + 1))).flatMap (fun j => 32 :: prF l f j) = (List.range' (i + 1) (runN l i - (i + 1))).flatMap (fun j => 32 :: prF l g j) := flatMap_congr' fun j hj => by
      have := List.mem_range'_1.1 hj
      have := (runN_spec l i hi).2.1
      rw [key j (by omega) (by omega)]
    unfold prF
    rw [k1, k2]
/-- a node's text out of its children's -/
theorem prN_at {l : List Nd} (hr : Rng l l.length) {i : Nat} (hi : i < l.length) : prN l i =
    if kin l i = 3 then nam l i ++ 61 :: quoL (val l i)
    else if kin l i = 4 then escL (val l i)
    else if kin l i = 5 then [60, 33, 45, 45] ++ val l i ++ [45, 45, 62]
    else if kin l i = 6 then [60, 63] ++ nam l i ++ (if val l i = [] then [] else 32 :: val l i) ++ [63, 62]
    else if kin l i = 1 then (childs l i).flatMap (prN l)
    else 60 :: nam l i ++ (List.range' (i + 1) (runN l i - (i + 1))).flatMap (fun j => 32 :: prN l j) ++ (if childs l i = [] then [47, 62] else 62 :: ((childs l i).flatMap (prN l) ++ ([60, 47] ++ nam l i ++ [62]))) := by
  obtain ⟨n, hn⟩ : ∃ n, l.length = n + 1 := ⟨l.length - 1, by omega⟩
  have key : ∀ j, i < j → j < l.length → prF l n j = prN l j := fun j h1 h2 => prF_fuel hr n l.length j h2 (by omega) (by omega)
  have k1 : (childs l i).flatMap (prF l n) = (childs l i).flatMap (prN l) := flatMap_congr' fun j hj => key j (childs_mem hr hj).1 (childs_mem hr hj).2
  have k2 : (List.range' (i + 1) (runN l i - (i + 1))).flatMap (fun j => 32 :: prF l n j) = (List.range' (i + 1) (runN l i - (i + 1))).flatMap (fun j => 32 :: prN l j) := flatMap_congr' fun j hj => by
    have := List.mem_range'_1.1 hj
    have := (runN_spec l i hi).2.1
    rw [key j (by omega) (by omega)]
  have h : prN l i = prF l (n + 1) i := by unfold prN; rw [hn]
  rw [h, ← k1, ← k2]
  rfl
theorem allB_take {l : List Nd} {root : Bool} : ∀ {n m : Nat}, allB l root n = true → m ≤ n → allB l root m = true
  | 0, m, h, hm => by
    obtain rfl : m = 0 := by omega
    exact h
  | n + 1, m, h, hm => by
    by_cases e : m = n + 1
    · subst e; exact h
    · unfold allB at h
      rw [Bool.and_eq_true] at h
      exact allB_take h.1 (by omega)
section
variable {l : List Nd} {root : Bool} (hA : allB l root l.length = true)
include hA
theorem tree_rng : Rng l l.length := allB_rng hA
theorem tree_open : ∀ k, k < l.length → openB l k = true := fun k hk => good_open (allB_good hA k hk)
/-- a node that is no root and no element has nothing below it -/
theorem end_leaf {i : Nat} (hi : i < l.length) (h1 : kin l i ≠ 1) (h2 : kin l i ≠ 2) : endN l i = i + 1 := by
  have hr := tree_rng hA
  obtain ⟨s1, s2, s3, _⟩ := endN_spec l i hi
  apply Classical.byContradiction
  intro hne
  have h3 := s3 (i + 1) (by omega) (by omega)
  have h4 := hr (i + 1) (by omega)
  have h5 : par l (i + 1) = i := by omega
  have h6 := good_parent (fun j hj => hr j (by omega)) (allB_good hA (i + 1) (by omega))
  rw [h5] at h6
  simp only [Int.toNat_natCast] at h6
  omega
/-- an attribute's elder siblings are attributes; its parent is an element -/
theorem attr_run {i j : Nat} (hj : j < l.length) (h3 : kin l j = 3) (hp : par l j = i) : kin l i = 2 ∧ ∀ k, i < k → k < j → par l k = i ∧ kin l k = 3 := by
  have hg := allB_good hA j hj
  have hao : allB l root j = true := allB_take hA (by omega)
  unfold good at hg
  rw [Bool.and_eq_true] at hg
  obtain ⟨ho, hg⟩ := hg
  have hfit : fitsB l j = true := by
    split at hg
    · unfold headB at hg
      simp only [Bool.and_eq_true, decide_eq_true_eq] at hg
      omega
    · exact hg
  unfold fitsB at hfit
  rw [Bool.and_eq_true] at hfit
  have hk := hfit.2
  unfold fitsK at hk
  rw [if_neg (by omega), if_pos h3, Bool.and_eq_true, Bool.and_eq_true, Bool.and_eq_true] at hk
  obtain ⟨⟨⟨k1, _⟩, k3⟩, k4⟩ := hk
  have ha := attrs_eq hao ho (by omega) (nam l j)
  rw [k3, k4] at ha
  have hb := (attrsB_iff l _ _ _ _).1 ha
  rw [hp] at hb k1
  refine ⟨?_, fun k h1 h2 => ?_⟩
  · unfold elemB at k1
    simp at k1
    omega
  · have := hb k (by simp; omega) h2
    exact ⟨this.1, this.2.1⟩
/-- the document looks for children behind the node -/
theorem childs_from {i : Nat} (hi : i < l.length) : childs l i = kidsL l i false (i + 1) l.length := by
  have hr := tree_rng hA
  unfold childs
  have e := kidsL_none l i false 0 (i + 1) (fun j _ h => by have := hr j (by omega); omega)
  rw [Nat.zero_add] at e
  rw [kidsL_split l i false 0 (i + 1) l.length (by omega) (by omega), e, List.nil_append]
/-- behind the attributes stand children that are none -/
theorem behind_run {i j : Nat} (hi : i < l.length) (hj : j < l.length) (hr : runN l i ≤ j) (hp : par l j = i) : kin l j ≠ 3 := by
  intro h3
  obtain ⟨s1, s2, s3, s4⟩ := runN_spec l i hi
  by_cases e : runN l i = j
  · rw [e] at s4
    exact s4 hj ⟨h3, hp⟩
  · have := (attr_run hA hj h3 hp).2 (runN l i) s1 (by omega)
    exact s4 (by omega) ⟨this.2, this.1⟩
/-- .. and all of them -/
theorem childs_run {i : Nat} (hi : i < l.length) : childs l i = (List.range' (runN l i) (l.length - runN l i)).filter fun j => decide (par l j = i) := by
  obtain ⟨s1, s2, s3, s4⟩ := runN_spec l i hi
  have hr := tree_rng hA
  have e0 : kidsL l i false 0 (runN l i) = [] := by
    unfold kidsL
    refine List.filter_eq_nil_iff.2 fun j hj => ?_
    have hj := List.mem_range'_1.1 hj
    by_cases h : i < j
    · rw [(s3 j h (by omega)).1]; simp
    · have := hr j (by omega)
      rw [decide_eq_false (by omega)]; simp
  unfold childs
  rw [kidsL_split l i false 0 (runN l i) l.length (by omega) s2, e0, List.nil_append]
  unfold kidsL
  refine List.filter_congr fun j hj => ?_
  have hj := List.mem_range'_1.1 hj
  by_cases h : par l j = i
  · have h3 := behind_run hA hi (by omega) (by omega) h
    rw [decide_eq_true h]
    simp [h3]
  · rw [decide_eq_false h]; simp
/-- the children from a place on -/
def kidsFrom (l : List Nd) (i k : Nat) : List Nat := (List.range' k (l.length - k)).filter fun j => decide (par l j = i)
omit hA in
theorem kidsFrom_step (l : List Nd) (i k m : Nat) (h : k ≤ m) (hm : m ≤ l.length) (hn : ∀ j, k ≤ j → j < m → par l j ≠ i) : kidsFrom l i k = kidsFrom l i m := by
  unfold kidsFrom
  rw [show l.length - k = (m - k) + (l.length - m) by omega, ← List.range'_append_1, List.filter_append, List.filter_eq_nil_iff.2, List.nil_append, show k + (m - k) = m by omega]
  intro j hj
  have hj := List.mem_range'_1.1 hj
  rw [decide_eq_false (hn j (by omega) (by omega))]
  simp
/-- a child, and then those behind its subtree -/
theorem kidsFrom_at {i k : Nat} (hk : k < l.length) (hp : par l k = i) : kidsFrom l i k = k :: kidsFrom l i (endN l k) := by
  obtain ⟨s1, s2, s3, s4⟩ := endN_spec l k hk
  have hr := tree_rng hA
  have hki := hr k hk
  rw [← kidsFrom_step l i (k + 1) (endN l k) (by omega) s2 (fun j h1 h2 => by have := s3 j (by omega) h2; omega)]
  unfold kidsFrom
  rw [show l.length - k = (l.length - (k + 1)) + 1 by omega, List.range'_succ, List.filter_cons, if_pos (by simp [hp])]
/-- behind a child's subtree: the next child, or the end -/
theorem kids_next {i k : Nat} (hk : k < l.length) (hp : par l k = i) : endN l k = l.length ∨ par l (endN l k) ≤ i := by
  obtain ⟨s1, s2, s3, s4⟩ := endN_spec l k hk
  by_cases e : endN l k = l.length
  · exact .inl e
  · refine .inr ?_
    have h4 := s4 (by omega)
    have := between (tree_rng hA) (tree_open hA) l.length (endN l k) (by omega) (by omega) k h4 s1
    omega
/-- no child is left, and the subtree ends there -/
theorem kids_end {i k : Nat} (hi : i < l.length) (hik : i < k) (hkl : k ≤ l.length) (hb : ∀ j : Nat, i < j → j < k → (i : Int) ≤ par l j) (hn : k = l.length ∨ par l k < i) : kidsFrom l i k = [] ∧ endN l i = k := by
  obtain ⟨s1, s2, s3, s4⟩ := endN_spec l i hi
  have he : endN l i = k := by
    apply Classical.byContradiction
    intro hne
    by_cases h : endN l i < k
    · have h1 := s4 (by omega)
      have h2 := hb (endN l i) s1 h
      omega
    · rcases hn with hn | hn
      · omega
      · have := s3 k hik (by omega)
        omega
  refine ⟨?_, he⟩
  unfold kidsFrom
  refine List.filter_eq_nil_iff.2 fun j hj => ?_
  have hj := List.mem_range'_1.1 hj
  have hne : par l j ≠ i := by
    intro hp
    have hb : belB l j i = true := by
      unfold belB
      rw [belC_at, if_neg (by omega), if_neg (by omega), Int.toNat_natCast, hp]
      obtain ⟨f, hf⟩ : ∃ f, j = f + 1 := ⟨j - 1, by omega⟩
      rw [hf, belC_at, if_neg (by omega), if_pos rfl]
    have := ((belB_iff (tree_rng hA) (tree_open hA) i hi j (by omega)).1 hb).2
    omega
  rw [decide_eq_false hne]
  simp
/-- the program's walk over a node's children: at a place, behind those that are written -/
structure Kid (l : List Nd) (i k : Nat) (V : List Nat) : Prop where
  lo : i < k
  hi : k ≤ l.length
  below : ∀ j : Nat, i < j → j < k → (i : Int) ≤ par l j
  edge : k = l.length ∨ par l k ≤ i
  rest : childs l i = V ++ kidsFrom l i k
theorem kid_step {i k : Nat} {V : List Nat} (h : Kid l i k V) (hk : k < l.length) (hp : par l k = i) : Kid l i (endN l k) (V ++ [k]) := by
  obtain ⟨s1, s2, s3, s4⟩ := endN_spec l k hk
  refine ⟨by have := h.lo; omega, s2, fun j h1 h2 => ?_, kids_next hA hk hp, ?_⟩
  · by_cases e : j < k
    · exact h.below j h1 e
    · by_cases e2 : j = k
      · subst e2; omega
      · have := s3 j (by omega) h2
        have := h.lo
        omega
  · rw [h.rest, kidsFrom_at hA hk hp, List.append_assoc]
    rfl
theorem kid_stop {i k : Nat} {V : List Nat} (h : Kid l i k V) (hn : k = l.length ∨ par l k ≠ i) : childs l i = V ∧ endN l i = k := by
  have h1 := h.lo
  have h2 := h.hi
  obtain ⟨a, b⟩ := kids_end hA (i := i) (k := k) (by omega) h1 h2 h.below (by
    rcases hn with hn | hn
    · exact .inl hn
    · rcases h.edge with e | e
      · exact .inl e
      · exact .inr (by omega))
  exact ⟨by rw [h.rest, a, List.append_nil], b⟩
theorem kid_attrs {i : Nat} (hi : i < l.length) : Kid l i (runN l i) [] := by
  obtain ⟨s1, s2, s3, s4⟩ := runN_spec l i hi
  refine ⟨s1, s2, fun j h1 h2 => by rw [(s3 j h1 h2).2]; omega, ?_, childs_run hA hi⟩
  by_cases e : runN l i = l.length
  · exact .inl e
  · refine .inr ?_
    by_cases e1 : runN l i = i + 1
    · have := tree_rng hA (runN l i) (by omega)
      omega
    · have h3 := s3 (runN l i - 1) (by omega) (by omega)
      have he := end_leaf hA (i := runN l i - 1) (by omega) (by omega) (by omega)
      rcases kids_next hA (i := i) (k := runN l i - 1) (by omega) h3.2 with h | h
      · rw [he] at h; omega
      · rw [he, show runN l i - 1 + 1 = runN l i by omega] at h
        exact h
theorem kid_root {i : Nat} (hi : i < l.length) (h2 : kin l i ≠ 2) : Kid l i (i + 1) [] := by
  have hr := kid_attrs hA hi
  obtain ⟨s1, s2, s3, s4⟩ := runN_spec l i hi
  have e : runN l i = i + 1 := by
    apply Classical.byContradiction
    intro hne
    have h3 := s3 (i + 1) (by omega) (by omega)
    exact h2 (attr_run hA (by omega) h3.1 h3.2).1
  rw [e] at hr
  exact hr
theorem attr_text {i j : Nat} (h1 : i < j) (h2 : j < runN l i) (hi : i < l.length) : prN l j = nam l j ++ 61 :: quoL (val l j) := by
  obtain ⟨_, s2, s3, _⟩ := runN_spec l i hi
  rw [prN_at (tree_rng hA) (by omega), if_pos (s3 j h1 h2).1]
end
/-- how many bytes a stretch of nodes takes at most -/
def wtN (l : List Nd) (j : Nat) : Nat := 6 * (val l j).length + 2 * (nam l j).length + 8
def wt (l : List Nd) (a b : Nat) : Nat := ((List.range' a (b - a)).map (wtN l)).sum
theorem wt_split (l : List Nd) (a b c : Nat) (h1 : a ≤ b) (h2 : b ≤ c) : wt l a c = wt l a b + wt l b c := by
  unfold wt
  rw [show c - a = (b - a) + (c - b) by omega, ← List.range'_append_1, List.map_append, List.sum_append, show a + (b - a) = b by omega]
theorem wt_one (l : List Nd) (a : Nat) : wt l a (a + 1) = wtN l a := by
  unfold wt
  rw [show a + 1 - a = 1 by omega]
  simp
theorem wt_self (l : List Nd) (a : Nat) : wt l a a = 0 := by
  unfold wt
  simp
theorem escL_len (s : List UInt8) : (escL s).length ≤ 6 * s.length := putL_len textC_len s
theorem quoL_len (s : List UInt8) : (quoL s).length ≤ 6 * s.length + 2 := by
  have := putL_len valueC_len s
  unfold quoL
  simp only [List.length_cons, List.length_append, List.length_nil]
  omega
section
variable {l : List Nd} {root : Bool} (hA : allB l root l.length = true)
include hA
theorem attrs_len {i : Nat} (hi : i < l.length) : ∀ d, i + 1 + d ≤ runN l i → ((List.range' (i + 1) d).flatMap (fun j => 32 :: prN l j)).length ≤ wt l (i + 1) (i + 1 + d)
  | 0, _ => by simp
  | d + 1, h => by
    have ih := attrs_len hi d (by omega)
    rw [List.range'_concat, List.flatMap_append, List.length_append, ← Nat.add_assoc, wt_split l (i + 1) (i + 1 + d) (i + 1 + d + 1) (by omega) (by omega), wt_one]
    have ha := attr_text hA (i := i) (j := i + 1 + d) (by omega) (by omega) hi
    have hq := quoL_len (val l (i + 1 + d))
    rw [Nat.one_mul]
    simp only [List.flatMap_cons, List.flatMap_nil, List.append_nil, List.length_cons, ha, List.length_append]
    unfold wtN
    omega
theorem kids_len {i : Nat} (hi : i < l.length) (hp : ∀ k, i < k → k < l.length → (prN l k).length ≤ wt l k (endN l k)) : ∀ (m k : Nat) (V : List Nat), Kid l i k V → l.length - k ≤ m → ((kidsFrom l i k).flatMap (prN l)).length ≤ wt l k (endN l i) := by
  intro m
  induction m with
  | zero =>
    intro k V h hm
    have h2 := h.hi
    have := kid_stop hA h (.inl (by omega))
    have h3 := h.rest
    rw [this.1] at h3
    have : kidsFrom l i k = [] := by simpa using h3
    rw [this]
    simp
  | succ m ih =>
    intro k V h hm
    by_cases hk : k < l.length ∧ par l k = i
    · obtain ⟨s1, s2, _, _⟩ := endN_spec l k hk.1
      have hs := kid_step hA h hk.1 hk.2
      have h1 := ih _ _ hs (by omega)
      have h2 := hp k h.lo hk.1
      have h3 : endN l k ≤ endN l i := by
        obtain ⟨a1, a2, a3, a4⟩ := endN_spec l i hi
        apply Classical.byContradiction
        intro hne
        have h4 := a4 (by omega)
        have h5 := hs.below (endN l i) a1 (by omega)
        omega
      rw [kidsFrom_at hA hk.1 hk.2, List.flatMap_cons, List.length_append, wt_split l k (endN l k) (endN l i) (by omega) h3]
      omega
    · have := kid_stop hA h (by
        by_cases e : k = l.length
        · exact .inl e
        · exact .inr fun e2 => hk ⟨by have := h.hi; omega, e2⟩)
      have h3 := h.rest
      rw [this.1] at h3
      have : kidsFrom l i k = [] := by simpa using h3
      rw [this]
      simp
theorem run_end {i : Nat} (hi : i < l.length) : runN l i ≤ endN l i := by
  obtain ⟨a1, a2, a3, a4⟩ := endN_spec l i hi
  obtain ⟨s1, s2, s3, s4⟩ := runN_spec l i hi
  have _ := hA
  apply Classical.byContradiction
  intro hne
  have h4 := a4 (by omega)
  have h5 := (s3 (endN l i) a1 (by omega)).2
  omega
/-- a node's text is no longer than its subtree allows -/
theorem pr_len : ∀ (n i : Nat), l.length - i ≤ n → i < l.length → (prN l i).length ≤ wt l i (endN l i) := by
  intro n
  induction n with
  | zero => intro i h hi; omega
  | succ n ih =>
    intro i h hi
    have hr := tree_rng hA
    have hp : ∀ k, i < k → k < l.length → (prN l k).length ≤ wt l k (endN l k) := fun k h1 h2 => ih k (by omega) h2
    obtain ⟨a1, a2, a3, a4⟩ := endN_spec l i hi
    obtain ⟨s1, s2, _, _⟩ := runN_spec l i hi
    have h1 : wt l i (endN l i) = wtN l i + wt l (i + 1) (endN l i) := by rw [wt_split l i (i + 1) (endN l i) (by omega) (by omega), wt_one]
    rw [h1, prN_at hr hi]
    have hq := quoL_len (val l i)
    have he := escL_len (val l i)
    split
    · simp only [List.length_append, List.length_cons]; unfold wtN; omega
    · split
      · unfold wtN; omega
      · split
        · simp only [List.length_append, List.length_cons, List.length_nil]; unfold wtN; omega
        · split
          · have : (if val l i = [] then [] else 32 :: val l i).length ≤ (val l i).length + 1 := by split <;> simp
            simp only [List.length_append, List.length_cons, List.length_nil]
            unfold wtN
            omega
          · split
            · rename_i h5
              have hk := kid_root hA hi (by omega)
              have h6 := kids_len hA hi hp l.length (i + 1) [] hk (by omega)
              rw [hk.rest, List.nil_append]
              omega
            · have hk := kid_attrs hA hi
              have h6 := kids_len hA hi hp l.length (runN l i) [] hk (by omega)
              have h7 := attrs_len hA hi (runN l i - (i + 1)) (by omega)
              rw [show i + 1 + (runN l i - (i + 1)) = runN l i by omega] at h7
              have h8 := wt_split l (i + 1) (runN l i) (endN l i) (by omega) (run_end hA hi)
              have hc : childs l i = kidsFrom l i (runN l i) := by rw [hk.rest, List.nil_append]
              rw [hc]
              have h9 : (if kidsFrom l i (runN l i) = [] then [47, 62] else 62 :: ((kidsFrom l i (runN l i)).flatMap (prN l) ++ ([60, 47] ++ nam l i ++ [62]))).length ≤ ((kidsFrom l i (runN l i)).flatMap (prN l)).length + (nam l i).length + 4 := by
                split
                · simp
                · simp only [List.length_append, List.length_cons, List.length_nil]; omega
              simp only [List.length_append, List.length_cons] at h9 ⊢
              unfold wtN
              omega
end
end Go.Proofs.YtkjodleggfacbaaDoor.Ppr
