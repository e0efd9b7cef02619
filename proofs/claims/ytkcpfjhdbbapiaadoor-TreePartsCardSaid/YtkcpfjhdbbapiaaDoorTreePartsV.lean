/- Plain: five axes part a right tree; siblings are children of one parent (chapter 06). The walk over the statement TreeParts (chapter 06). -/
import Derived.Test.YtkcpfjhdbbapiaaDoorTreeGoV
import Derived.Test.YtkcpfjhdbbapiaaDoorTreeCutsV
namespace Go.Proofs.YtkcpfjhdbbapiaaDoor.Wtr
open Go Go.Proofs.YtkcpfjhdbbapiaaDoor.Kb

theorem count_mem {L : List Nat} (h : L.Nodup) (x : Nat) : L.count x = if x ∈ L then 1 else 0 := by
  split
  · rename_i hm
    have h1 := List.nodup_iff_count.1 h x
    have h2 := List.count_pos_iff.2 hm
    omega
  · rename_i hm
    exact List.count_eq_zero_of_not_mem hm
theorem stretch_nodup (l : List Ptr.Nd) (a b : Nat) : (stretchL l a b).Nodup := by
  unfold stretchL
  exact List.Pairwise.filter _ (List.nodup_range' (step := 1) (by omega))
theorem stretch_iff {l : List Ptr.Nd} {a b x : Nat} : x ∈ stretchL l a b ↔ a ≤ x ∧ x < b ∧ Ptr.kin l x ≠ 3 := by
  unfold stretchL
  rw [List.mem_filter, List.mem_range']
  constructor
  · rintro ⟨⟨i, h1, rfl⟩, h2⟩
    exact ⟨by omega, by omega, by simpa using h2⟩
  · rintro ⟨h1, h2, h3⟩
    exact ⟨⟨x - a, by omega, by omega⟩, by simpa using h3⟩
theorem upC_ok {l : List Ptr.Nd} {n : Nat} (h : Ptr.Rng l n) : ∀ (f : Nat) (p : Int), p < n → (Ptr.upC l f p).Nodup ∧ (∀ y ∈ Ptr.upC l f p, (y : Int) ≤ p) ∧ ((∃ j, j < n ∧ Ptr.par l j = p) → ∀ y ∈ Ptr.upC l f p, ∃ j, j < n ∧ Ptr.par l j = y)
  | 0, _, _ => by simp [Ptr.upC]
  | f + 1, p, hp => by
    rw [Ptr.upC_at]
    by_cases h0 : p < 0
    · rw [if_pos h0]; simp
    · rw [if_neg h0]
      have hr := h p.toNat (by omega)
      obtain ⟨a, b, c⟩ := upC_ok h f (Ptr.par l p.toNat) (by omega)
      refine ⟨List.nodup_cons.2 ⟨fun hm => by have := b _ hm; omega, a⟩, fun y hy => ?_, fun hj y hy => ?_⟩
      · rcases List.mem_cons.1 hy with rfl | hy
        · omega
        · have := b y hy; omega
      · rcases List.mem_cons.1 hy with rfl | hy
        · obtain ⟨j, h1, h2⟩ := hj
          exact ⟨j, h1, by omega⟩
        · exact c ⟨p.toNat, by omega, rfl⟩ y hy
theorem upL_ok {l : List Ptr.Nd} {root : Bool} {k : Nat} (R : Rt l root k) : (Ptr.upL l k).Nodup ∧ (∀ y ∈ Ptr.upL l k, y < k) ∧ ∀ y ∈ Ptr.upL l k, Ptr.kin l y ≠ 3 := by
  have hr := R.rng k R.lt
  have hk := R.lt
  obtain ⟨a, b, c⟩ := upC_ok R.rng k (Ptr.par l k) (by omega)
  refine ⟨a, fun y hy => by have := b y hy; omega, fun y hy => ?_⟩
  obtain ⟨j, h1, h2⟩ := c ⟨k, hk, rfl⟩ y hy
  have := R.up j h1
  rw [h2, Int.toNat_natCast] at this
  omega
def axesL : List Int := [10, 4, 2, 7, 8]
/-- what the first a axes give -/
def gone (l : List Ptr.Nd) (k a : Nat) : List Nat := (axesL.take a).flatMap (goL l k)
theorem gone_step {l : List Ptr.Nd} {k a : Nat} {X : Int} (h : axesL[a]? = some X) : gone l k (a + 1) = gone l k a ++ goL l k X := by
  unfold gone
  obtain ⟨hj, rfl⟩ := List.getElem?_eq_some_iff.1 h
  rw [List.take_succ_eq_append_getElem hj, List.flatMap_append]
  simp
theorem go_spec (l : List Ptr.Nd) (k : Nat) : goL l k 10 = [k] ∧ goL l k 4 = Ptr.upL l k ∧ goL l k 2 = stretchL l (k + 1) (Ptr.endN l k) ∧ goL l k 7 = stretchL l (Ptr.endN l k) l.length ∧ goL l k 8 = ((stretchL l 0 k).filter fun x => !decide (x ∈ Ptr.upL l k)).reverse ∧ goL l k 6 = ((stretchL l 0 k).filter fun x => !sibDel l k x).reverse ∧ goL l k 5 = (stretchL l (Ptr.endN l k) l.length).filter fun x => !sibDel l k x := ⟨rfl, rfl, rfl, rfl, rfl, rfl, rfl⟩
theorem gone_all (l : List Ptr.Nd) (k : Nat) : gone l k 5 = goL l k 10 ++ (goL l k 4 ++ (goL l k 2 ++ (goL l k 7 ++ goL l k 8))) := by
  unfold gone axesL
  simp
theorem gone_count {l : List Ptr.Nd} {root : Bool} {k : Nat} (R : Rt l root k) (h3 : Ptr.kin l k ≠ 3) (x : Nat) (hx : x < l.length) : (gone l k 5).count x = if Ptr.kin l x = 3 then 0 else 1 := by
  obtain ⟨s1, s2, _, _⟩ := R.spec
  obtain ⟨u1, u2, u3⟩ := upL_ok R
  obtain ⟨g1, g2, g3, g4, g5, _, _⟩ := go_spec l k
  have n8 : (((stretchL l 0 k).filter fun x => !decide (x ∈ Ptr.upL l k)).reverse).Nodup := (List.pairwise_reverse).2 ((List.Pairwise.filter _ (stretch_nodup l 0 k)).imp fun h => Ne.symm h)
  rw [gone_all, g1, g2, g3, g4, g5, List.count_append, List.count_append, List.count_append, List.count_append, count_mem u1, count_mem (stretch_nodup _ _ _), count_mem (stretch_nodup _ _ _), count_mem n8]
  simp only [List.mem_reverse, List.mem_filter, stretch_iff, Bool.not_eq_true', decide_eq_false_iff_not]
  have c1 : [k].count x = if x = k then 1 else 0 := by
    rw [List.count_singleton]
    by_cases e : x = k
    · subst e; simp
    · rw [if_neg e, if_neg (by simpa using fun h => e h.symm)]
  rw [c1]
  by_cases hu : x ∈ Ptr.upL l k
  · have a := u2 x hu
    have b := u3 x hu
    rw [if_neg (show ¬ x = k by omega), if_pos hu, if_neg (show ¬ (k + 1 ≤ x ∧ x < Ptr.endN l k ∧ Ptr.kin l x ≠ 3) by omega), if_neg (show ¬ (Ptr.endN l k ≤ x ∧ x < l.length ∧ Ptr.kin l x ≠ 3) by omega), if_neg (by rintro ⟨_, h⟩; exact h hu), if_neg b]
  · rw [if_neg hu]
    by_cases e3 : Ptr.kin l x = 3
    · rw [if_pos e3, if_neg (show ¬ x = k by intro e; subst e; exact h3 e3), if_neg (by omega), if_neg (by omega), if_neg (by omega)]
    · rw [if_neg e3]
      by_cases h1 : x < k
      · rw [if_neg (show ¬ x = k by omega), if_neg (show ¬ (k + 1 ≤ x ∧ x < Ptr.endN l k ∧ Ptr.kin l x ≠ 3) by omega), if_neg (show ¬ (Ptr.endN l k ≤ x ∧ x < l.length ∧ Ptr.kin l x ≠ 3) by omega), if_pos ⟨⟨by omega, h1, e3⟩, hu⟩]
      · have hn : ¬ ((0 ≤ x ∧ x < k ∧ Ptr.kin l x ≠ 3) ∧ x ∉ Ptr.upL l k) := by omega
        rw [if_neg hn]
        by_cases h2 : x = k
        · rw [if_pos h2, if_neg (show ¬ (k + 1 ≤ x ∧ x < Ptr.endN l k ∧ Ptr.kin l x ≠ 3) by omega), if_neg (show ¬ (Ptr.endN l k ≤ x ∧ x < l.length ∧ Ptr.kin l x ≠ 3) by omega)]
        · rw [if_neg h2]
          by_cases h4 : x < Ptr.endN l k
          · rw [if_pos (show k + 1 ≤ x ∧ x < Ptr.endN l k ∧ Ptr.kin l x ≠ 3 from ⟨by omega, h4, e3⟩), if_neg (show ¬ (Ptr.endN l k ≤ x ∧ x < l.length ∧ Ptr.kin l x ≠ 3) by omega)]
          · rw [if_neg (show ¬ (k + 1 ≤ x ∧ x < Ptr.endN l k ∧ Ptr.kin l x ≠ 3) by omega), if_pos (show Ptr.endN l k ≤ x ∧ x < l.length ∧ Ptr.kin l x ≠ 3 from ⟨by omega, hx, e3⟩)]
theorem go_mem {l : List Ptr.Nd} {root : Bool} {k : Nat} (R : Rt l root k) {X : Int} (hX : X ∈ axesL ∨ X = 6 ∨ X = 5) : (∀ x ∈ goL l k X, x < l.length) ∧ (goL l k X).length ≤ l.length := by
  obtain ⟨s1, s2, _, _⟩ := R.spec
  obtain ⟨u1, u2, u3⟩ := upL_ok R
  obtain ⟨g1, g2, g3, g4, g5, g6, g7⟩ := go_spec l k
  have hk := R.lt
  have hs := fun a b (hb : b ≤ l.length) => (⟨fun x hx => stretch_mem hx hb, Nat.le_trans (stretchL_le l a b) (by omega)⟩ : (∀ x ∈ stretchL l a b, x < l.length) ∧ (stretchL l a b).length ≤ l.length)
  have hcase : X = 10 ∨ X = 4 ∨ X = 2 ∨ X = 7 ∨ X = 8 ∨ X = 6 ∨ X = 5 := by
    rcases hX with h | h | h
    · simp only [axesL, List.mem_cons, List.mem_nil_iff, or_false] at h; omega
    · omega
    · omega
  rcases hcase with rfl | rfl | rfl | rfl | rfl | rfl | rfl
  · rw [g1]; exact ⟨fun x hx => by simp at hx; omega, by simp; omega⟩
  · rw [g2]; exact ⟨fun x hx => by have := u2 x hx; omega, Nat.le_trans (upC_len l k _) (by omega)⟩
  · rw [g3]; exact hs _ _ s2
  · rw [g4]; exact hs _ _ (Nat.le_refl _)
  · rw [g5]
    obtain ⟨a, b⟩ := hs 0 k (by omega)
    exact ⟨fun x hx => a x (List.mem_filter.1 (List.mem_reverse.1 hx)).1, by rw [List.length_reverse]; exact Nat.le_trans (len_filter _ _) b⟩
  · rw [g6]
    obtain ⟨a, b⟩ := hs 0 k (by omega)
    exact ⟨fun x hx => a x (List.mem_filter.1 (List.mem_reverse.1 hx)).1, by rw [List.length_reverse]; exact Nat.le_trans (len_filter _ _) b⟩
  · rw [g7]
    obtain ⟨a, b⟩ := hs (Ptr.endN l k) l.length (Nat.le_refl _)
    exact ⟨fun x hx => a x (List.mem_filter.1 hx).1, Nat.le_trans (len_filter _ _) b⟩
theorem gone_len {l : List Ptr.Nd} {root : Bool} {k : Nat} (R : Rt l root k) : ∀ a, a ≤ 5 → (gone l k a).length ≤ a * l.length
  | 0, _ => by simp [gone]
  | a + 1, h => by
    have hx : axesL[a]? = some (axesL[a]'(by simp [axesL]; omega)) := List.getElem?_eq_getElem _
    rw [gone_step hx, List.length_append, Nat.succ_mul]
    have h1 := gone_len R a (by omega)
    have h2 := (go_mem R (.inl (List.mem_of_getElem? hx))).2
    omega
/-- siblings ahead, the node, siblings behind: its parent's children -/
theorem kids_row {l : List Ptr.Nd} {root : Bool} {k : Nat} (R : Rt l root k) (h3 : Ptr.kin l k ≠ 3) (h0 : 0 ≤ Ptr.par l k) :
    (goL l k 6).reverse ++ [k] ++ goL l k 5 = Ptr.kidsL l (Ptr.par l k).toNat false 0 l.length := by
  obtain ⟨s1, s2, s3, _⟩ := R.spec
  obtain ⟨_, _, _, _, _, g6, g7⟩ := go_spec l k
  have hr := R.rng k R.lt
  have hk := R.lt
  have hp : ((Ptr.par l k).toNat : Int) = Ptr.par l k := by omega
  have hf : ∀ a b, (stretchL l a b).filter (fun x => !sibDel l k x) = Ptr.kidsL l (Ptr.par l k).toNat false a b := fun a b => by
    unfold stretchL Ptr.kidsL sibDel
    rw [List.filter_filter, hp]
    apply List.filter_congr
    intro x _
    have e : (Ptr.kin l k == 3) = false := by simpa using h3
    rw [e]
    cases hkx : (Ptr.kin l x == 3) <;> by_cases hpx : Ptr.par l x = Ptr.par l k <;> simp [hpx]
  rw [g6, g7, List.reverse_reverse, hf, hf, Ptr.kidsL_split l _ false 0 k l.length (by omega) (by omega), Ptr.kidsL_split l _ false k (k + 1) l.length (by omega) (by omega), Ptr.kidsL_split l _ false (k + 1) (Ptr.endN l k) l.length (by omega) s2]
  have e1 : Ptr.kidsL l (Ptr.par l k).toNat false k (k + 1) = [k] := by
    rw [Ptr.kidsL_step _ _ _ _ _ (Nat.le_refl _), hp, decide_eq_true rfl, show (Ptr.kin l k == 3) = false by simpa using h3]
    simp [Ptr.kidsL]
  have e2 : Ptr.kidsL l (Ptr.par l k).toNat false (k + 1) (Ptr.endN l k) = [] := by
    have := Ptr.kidsL_none l (Ptr.par l k).toNat false (k + 1) (Ptr.endN l k - (k + 1)) (fun j h1 h2 e => by
      have := s3 j (by omega) (by omega)
      omega)
    rwa [show k + 1 + (Ptr.endN l k - (k + 1)) = Ptr.endN l k by omega] at this
  rw [e1, e2]
  simp
/-- the counts, one more -/
def cntC (n : Nat) (M : List Nat) : List Value := (List.range n).map fun x => Value.int .i64 (M.count x : Nat)
theorem cntC_get (n : Nat) (M : List Nat) (x : Nat) (h : x < n) : (cntC n M)[x]? = some (.int .i64 (M.count x : Nat)) := by
  unfold cntC
  rw [List.getElem?_map, List.getElem?_range h]
  rfl
theorem cntC_len (n : Nat) (M : List Nat) : (cntC n M).length = n := by simp [cntC]
theorem cntC_set (n : Nat) (M : List Nat) (x : Nat) (h : x < n) : (cntC n M).set x (.int .i64 ((M.count x : Nat) + 1)) = cntC n (M ++ [x]) := by
  apply List.ext_getElem?
  intro j
  by_cases hj : j < n
  · rw [cntC_get n (M ++ [x]) j hj, List.count_append, List.count_singleton]
    by_cases e : x = j
    · subst e
      rw [List.getElem?_set_self (by rw [cntC_len]; exact h)]
      simp
    · rw [List.getElem?_set_ne e, cntC_get n M j hj, if_neg (by simpa using e)]
      simp
  · rw [List.getElem?_eq_none (by rw [List.length_set, cntC_len]; omega), List.getElem?_eq_none (by rw [cntC_len]; omega)]
end Go.Proofs.YtkcpfjhdbbapiaaDoor.Wtr
namespace Go.Proofs.YtkcpfjhdbbapiaaDoor.Wtr
open Go Go.RowKit Go.Proofs.YtkcpfjhdbbapiaaDoor.Kb Go.Proofs.YtkcpfjhdbbapiaaDoor.Flt

set_option maxRecDepth 100000 in
set_option maxHeartbeats 4000000 in
theorem parts_no (A : Option Addr) (l : List Ptr.Nd) (c : Nat) (a : Int) (w : World) (hr : RdN w A l) (hf : FitP l) (hE : TEnv w) (hno : 300 < l.length ∨ Ptr.chk l true ≠ 0) :
    Calls Tryd.prog 5 #[.slice A l.length c, .int .i64 a] w fun e w' => e = .returned (.bool true) ∧ Below w.heap.size w w' := by
  have CA := Kept.mk (awake_any w hE)
  by_cases hl : l.length ≤ 300
  · have b1 : ¬ (300 : Int) < (l.length : Int) := by omega
    have h0 : Ptr.chk l true ≠ 0 := by omega
    have CC := Kept.mk (fun wx (hx : Below w.heap.size w wx) => check_any A l c wx (hr.below hx) (by omega) hf (hE.below hx))
    have q1 : (((Ptr.chk l true : Nat) : Int) != 0) = true := by simpa using h0
    clear hr hf hE hno h0
    generalize Ptr.chk l true = C at CC q1
    go_enter Tryd.func5, Tryd.ntmps5
    go_wp2_with (first | (go_at_call 7; refine CA.out.mono ?_; rintro e w1 ⟨rfl, hb1⟩; have B1 := Kept.mk hb1; clear hb1) | (go_at_call 9; refine (CC.out _ B1.out).mono ?_; rintro e w2 ⟨rfl, hb2⟩; have B2 := Kept.mk (B1.out.trans (hb2.mono B1.out.size)); clear hb2))
    go_ret
    exact ⟨rfl, B2.out⟩
  · have b1 : (300 : Int) < (l.length : Int) := by omega
    clear hr hf hE hno
    go_enter Tryd.func5, Tryd.ntmps5
    go_wp2_with (go_at_call 7; refine CA.out.mono ?_; rintro e w1 ⟨rfl, hb1⟩; have B1 := Kept.mk hb1; clear hb1)
    go_ret
    exact ⟨rfl, B1.out⟩
set_option maxRecDepth 100000 in
set_option maxHeartbeats 1000000 in
theorem sameRow_any (L : List Nat) (v1 v2 : Value) (b1 b2 : Nat) (w : World) (h1 : w.ownsRow b1 3 1 v1 L.length (ic L)) (h2 : w.ownsRow b2 3 1 v2 L.length (ic L)) (hl : L.length ≤ 1000000) :
    Calls Tryd.prog 16 #[v1, v2] w fun e w' => e = .returned (.bool true) ∧ Below w.heap.size w w' := by
  obtain ⟨A1, c1, rfl⟩ := own_shape_i h1
  obtain ⟨A2, c2, rfl⟩ := own_shape_i h2
  have H1 := Kept.mk h1
  have H2 := Kept.mk h2
  clear h1 h2
  go_enter Tryd.func16, Tryd.ntmps16
  go_wp2
  go_loopw [5] (fun i wx => ∃ k : Nat, k ≤ L.length ∧ i = .int .i64 (k : Int) ∧ ∃ d, wx = w.drewN d) (fun i _ => L.length - (intOf i).toNat)
  case atStart => exact ⟨0, by omega, rfl, 0, rfl⟩
  case round =>
    obtain ⟨k, hk, rfl, d, rfl⟩ := hrel
    have k0 : (0 : Int) ≤ (k : Int) := by omega
    by_cases hlt : k < L.length
    · have k1 : (k : Int) < (L.length : Int) := by omega
      obtain ⟨g1, d1, e1, _⟩ := own_block H1.out (by omega)
      obtain ⟨g2, d2, e2, _⟩ := own_block H2.out (by omega)
      obtain ⟨rfl, rfl⟩ : A1 = some ⟨g1, 0, none⟩ ∧ c1 = d1 := by simpa using e1
      obtain ⟨rfl, rfl⟩ : A2 = some ⟨g2, 0, none⟩ ∧ c2 = d2 := by simpa using e2
      have hx : (ic L)[k]? = some (.int .i64 ((L[k]'hlt : Nat) : Int)) := by unfold ic; rw [List.getElem?_map, List.getElem?_eq_getElem hlt]; rfl
      have x1 := own_at H1.out k _ hx
      have x2 := own_at H2.out k _ hx
      generalize ((L[k]'hlt : Nat) : Int) = z at x1 x2
      clear hx e1 e2
      go_wp2
      go_quiet (fail)
      go_wp2
      go_roundw
      case rel => exact ⟨k + 1, by omega, by go_num, d + nq, rfl⟩
      case measure => simp [intOf]; omega
    · obtain rfl : k = L.length := by omega
      go_wp2
      go_ret
      exact ⟨rfl, below_drewN (Below.refl _ _) _⟩
/-- a row of numbers that does not lie in block g -/
def RdX (g : Nat) (w : World) (A : Option Addr) (L : List Nat) : Prop := L ≠ [] → ∃ b, A = some ⟨b, 0, none⟩ ∧ b ≠ g ∧ ∀ j x, L[j]? = some x → w.cell? ⟨b, j, none⟩ = some (.int .i64 ((x : Nat) : Int))
theorem rdx_of_own {w : World} {base n c g : Nat} {A : Option Addr} {L : List Nat} (h : w.ownsRow base 3 1 (.slice A n c) n (ic L)) (hg : g < base) : RdX g w A L := by
  intro hne
  have hl := h.1
  rw [ic_length] at hl
  have hp := List.length_pos_iff.2 hne
  obtain ⟨g', c', hv, hb, _⟩ := own_block h (by omega)
  obtain ⟨rfl, rfl⟩ : A = some ⟨g', 0, none⟩ ∧ c = c' := by simpa using hv
  exact ⟨g', rfl, by omega, fun j x hx => own_at h j _ (by unfold ic; rw [List.getElem?_map, hx]; rfl)⟩
theorem rdx_set {g j : Nat} {w : World} {A : Option Addr} {L : List Nat} {u : Value} (h : RdX g w A L) : RdX g (w.setCell ⟨g, j, none⟩ u) A L := by
  intro hne
  obtain ⟨b, rfl, hb, hc⟩ := h hne
  exact ⟨b, rfl, hb, fun i x hx => by rw [World.cell?_setCell_far _ _ _ _ (by show g ≠ b; omega)]; exact hc i x hx⟩
/-- the five axes in their block -/
def AxAt (g b : Nat) (w : World) : Prop := b ≠ g ∧ ∀ (j : Nat) (X : Int), axesL[j]? = some X → w.cell? ⟨b, j, none⟩ = some (.int .u8 X)
theorem ax_set {g b j : Nat} {w : World} {u : Value} (h : AxAt g b w) : AxAt g b (w.setCell ⟨g, j, none⟩ u) :=
  ⟨h.1, fun i x hx => by rw [World.cell?_setCell_far _ _ _ _ (by show g ≠ b; exact fun e => h.1 e.symm)]; exact h.2 i x hx⟩
theorem ax_below {g b : Nat} {w w' : World} (h : AxAt g b w) (hb : Below w.heap.size w w') : AxAt g b w' := ⟨h.1, fun i x hx => cell_keep hb (h.2 i x hx)⟩
theorem cnt_start {w : World} {base n : Nat} {v : Value} (h : w.ownsRow base 3 1 v n (madeCells (Value.int .i64 0).cells (n * 1)).toList) : w.ownsRow base 3 1 v n (cntC n []) := by
  have e : (madeCells (Value.int .i64 0).cells (n * 1)).toList = cntC n [] := by
    rw [Nat.mul_one, show (Value.int .i64 0).cells = #[Value.int .i64 0] from rfl, toList_madeCells_one]
    unfold cntC
    apply List.ext_getElem
    · simp
    · intro i h1 h2
      simp
  rw [e] at h
  exact h
theorem ax_new (w : World) (g : Nat) (hg : g < w.heap.size) : AxAt g w.heap.size (w.alloc (.cells #[.int .u8 10, .int .u8 4, .int .u8 2, .int .u8 7, .int .u8 8] 36)) :=
  ⟨by omega, fun j X hX => by
    rw [World.cell?_alloc_new]
    unfold axesL at hX
    match j, hX with
    | 0, hX | 1, hX | 2, hX | 3, hX | 4, hX => simp at hX; subst hX; rfl
    | j + 5, hX => simp at hX⟩
theorem go_axes (A : Option Addr) (l : List Ptr.Nd) (c i : Nat) (w : World) (hr : RdN w A l) (hl : l.length ≤ 100000) (hf : FitP l) (hE : TEnv w) (hi : i < l.length) (hp : placeB l i = true) (X : Int) (hX : X ∈ axesL) :
    Calls Tryd.prog 15 #[.slice A l.length c, .int .i64 i, .int .u8 X] w fun e w' => ∃ v, e = .returned v ∧ w'.ownsRow w.heap.size 3 1 v (goL l i X).length (ic (goL l i X)) ∧ Below w.heap.size w w' := by
  simp only [axesL, List.mem_cons, List.mem_nil_iff, or_false] at hX
  rcases hX with rfl | rfl | rfl | rfl | rfl
  · exact go_10 A l c i w hr hl hf hE hi hp
  · exact go_4 A l c i w hr hl hf hE hi hp
  · exact go_2 A l c i w hr hl hf hE hi hp
  · exact go_7 A l c i w hr hl hf hE hi hp
  · exact go_8 A l c i w hr hl hf hE hi hp
set_option maxRecDepth 100000 in
set_option maxHeartbeats 4000000 in
theorem parts_attr (A : Option Addr) (l : List Ptr.Nd) (c : Nat) (a : Int) (w : World) (hr : RdN w A l) (hf : FitP l) (hE : TEnv w) (hl : l.length ≤ 300) (hC : Ptr.chk l true = 0) (h3 : Ptr.kin l (pickV a l.length) = 3) :
    Calls Tryd.prog 5 #[.slice A l.length c, .int .i64 a] w fun e w' => e = .returned (.bool true) ∧ Below w.heap.size w w' := by
  have h0 := chk_len hC
  have hk := pickV_lt a l.length h0
  have CA := Kept.mk (awake_any w hE)
  have cC := fun wx (hx : Below w.heap.size w wx) => check_any A l c wx (hr.below hx) (by omega) hf (hE.below hx)
  rw [hC] at cC
  have CK := Kept.mk (fun wx => pick_n a l.length h0 (by omega) wx)
  generalize pickV a l.length = k at hk h3 CK
  obtain ⟨b, off, rfl, c0, _⟩ := hr.at_ hk
  simp only at c0
  rw [h3] at c0
  have b1 : ¬ (300 : Int) < (l.length : Int) := by omega
  have i0 : (0 : Int) ≤ (k : Int) := by omega
  have i1 : (k : Int) < (l.length : Int) := by omega
  have C0 := Kept.mk c0
  have CC := Kept.mk cC
  clear hr hf hE hC h3 cC c0
  go_enter Tryd.func5, Tryd.ntmps5
  go_wp2_with (first | (go_at_call 7; refine CA.out.mono ?_; rintro e w1 ⟨rfl, hb1⟩; have B1 := Kept.mk hb1; clear hb1) | (go_at_call 9; refine (CC.out _ B1.out).mono ?_; rintro e w2 ⟨rfl, hb2⟩; have B2 := Kept.mk (B1.out.trans (hb2.mono B1.out.size)); have c0 := cell_keep B2.out C0.out; clear hb2) | (go_at_call 14; refine (CK.out _).mono ?_; rintro e w' ⟨rfl, rfl⟩))
  go_ret
  exact ⟨rfl, B2.out⟩
theorem row_step {w : World} {base n i x : Nat} {v : Value} {L : List Nat} (hx : L[i]? = some x) (h : w.ownsRow base 3 1 v n (ic (L.drop (i + 1)).reverse ++ ic [x])) : w.ownsRow base 3 1 v n (ic (L.drop i).reverse) := by
  obtain ⟨hi, rfl⟩ := List.getElem?_eq_some_iff.1 hx
  rw [List.drop_eq_getElem_cons hi, List.reverse_cons, ic_append]
  exact h
theorem row_whole {w : World} {base k : Nat} {v : Value} {L6 L5 LK : List Nat} (e : L6.reverse ++ [k] ++ L5 = LK) (h : w.ownsRow base 3 1 v (L6.length + 1 + L5.length) ((ic (L6.drop 0).reverse ++ ic [k]) ++ ic L5)) : w.ownsRow base 3 1 v LK.length (ic LK) := by
  subst e
  rw [List.drop_zero, ← ic_append, ← ic_append] at h
  rwa [show (L6.reverse ++ [k] ++ L5).length = L6.length + 1 + L5.length by simp; omega]
theorem sib_row {l : List Ptr.Nd} {k : Nat} (hC : Ptr.chk l true = 0) (hk : k < l.length) (h3 : Ptr.kin l k ≠ 3) (h0 : 0 < k) : (goL l k 6).reverse ++ [k] ++ goL l k 5 = kidsB l (Ptr.par l k) false := by
  have R : Rt l true k := ⟨chk_all hC, hk⟩
  have R0 : Rt l true 0 := ⟨chk_all hC, by omega⟩
  have hp : 0 ≤ Ptr.par l k := by
    have := R0.spec.2.2.1 k h0 (by rw [(end_root hC (by omega)).1]; exact hk)
    omega
  have hr := R.rng k hk
  obtain ⟨g, ho⟩ := place_rng (place_of hC hk)
  obtain ⟨q, hq⟩ : ∃ q : Nat, Ptr.par l k = q := ⟨(Ptr.par l k).toNat, by omega⟩
  rw [kids_row R h3 hp, hq, Int.toNat_natCast, kids_of hC (by omega), Ptr.kidsL_eq g ho q (by omega)]
set_option maxRecDepth 100000 in
set_option maxHeartbeats 8000000 in
theorem parts_node (A : Option Addr) (l : List Ptr.Nd) (c : Nat) (a : Int) (w : World) (hr : RdN w A l) (hf : FitP l) (hE : TEnv w) (hl : l.length ≤ 300) (hC : Ptr.chk l true = 0) (h3 : Ptr.kin l (pickV a l.length) ≠ 3) :
    Calls Tryd.prog 5 #[.slice A l.length c, .int .i64 a] w fun e w' => e = .returned (.bool true) ∧ Below w.heap.size w w' := by
  obtain ⟨i0', hi, hz0, hz1, hz2⟩ := info_parts infoI'
  have h0 := chk_len hC
  have hk := pickV_lt a l.length h0
  have CA := Kept.mk (awake_any w hE)
  have cC := fun wx (hx : Below w.heap.size w wx) => check_any A l c wx (hr.below hx) (by omega) hf (hE.below hx)
  rw [hC] at cC
  have CC := Kept.mk cC
  have CK := Kept.mk (fun wx => pick_n a l.length h0 (by omega) wx)
  generalize pickV a l.length = k at hk h3 CK
  have R : Rt l true k := ⟨chk_all hC, hk⟩
  have hp := place_of hC hk
  have CG := Kept.mk (fun X (hX : X ∈ axesL) wx (hb : Below w.heap.size w wx) => go_axes A l c k wx (hr.below hb) (by omega) hf (hE.below hb) hk hp X hX)
  have CG6 := Kept.mk (fun wx (hb : Below w.heap.size w wx) => go_6 A l c k wx (hr.below hb) (by omega) hf (hE.below hb) hk hp)
  have CG5 := Kept.mk (fun wx (hb : Below w.heap.size w wx) => go_5 A l c k wx (hr.below hb) (by omega) hf (hE.below hb) hk hp)
  have CKi := Kept.mk (fun wx (hb : Below w.heap.size w wx) => Kids_any A l c (Ptr.par l k) wx (hr.below hb) (by omega) hf (hE.below hb))
  have gst := fun m X (hX : axesL[m]? = some X) => gone_step (l := l) (k := k) hX
  have gct := fun x hx => gone_count R h3 x hx
  have gln := fun m hm => gone_len R m hm
  have gme := fun X (hX : X ∈ axesL ∨ X = 6 ∨ X = 5) => go_mem R hX
  obtain ⟨b, off, rfl, ck0, _, _, ck3⟩ := hr.at_ hk
  simp only at ck0 ck3
  have q3 : (((Ptr.kin l k : Nat) : Int) == 3) = false := by simp; omega
  have b1 : ¬ (300 : Int) < (l.length : Int) := by omega
  have i0 : (0 : Int) ≤ (k : Int) := by omega
  have i1 : (k : Int) < (l.length : Int) := by omega
  have HR := Kept.mk hr; have HE := Kept.mk hE; have CK0 := Kept.mk ck0; have CK3 := Kept.mk ck3; have HRT := Kept.mk R; have H3 := Kept.mk h3; have HC := Kept.mk hC
  have GST := Kept.mk gst; have GCT := Kept.mk gct; have GLN := Kept.mk gln; have GME := Kept.mk gme
  clear hr hf hE hC cC gst gct gln gme R h3 ck0 ck3 hp
  go_enter Tryd.func5, Tryd.ntmps5
  go_wp2_with (first | (go_at_call 7; refine CA.out.mono ?_; rintro e w1 ⟨rfl, hb1⟩; have B1 := Kept.mk hb1; clear hb1) | (go_at_call 9; refine (CC.out _ B1.out).mono ?_; rintro e w2 ⟨rfl, hb2⟩; have B2 := Kept.mk (B1.out.trans (hb2.mono B1.out.size)); have ck0 := cell_keep B2.out CK0.out; clear hb2) | (go_at_call 14; refine (CK.out _).mono ?_; rintro e w' ⟨rfl, rfl⟩) | (at_make; refine wpList_make_full _ rfl _ _ 35 rfl w.heap.size 3 i0' (.int .i64 0) 1 Tryd.underlying35 hi hz0 hz1 .i64 .i64 _ _ l.length (by rfl) (by rfl) (by omega) (by omega) (by rw [hz2]; omega) (by unfold maxLen; omega) B2.out.size ?_; intro w3 hown3 hgrow3; have O3 := Kept.mk (cnt_start hown3); have B3 := Kept.mk (B2.out.grown hgrow3 B2.out.size (fun k e => by cases e)); have s23 := hgrow3.size; clear hown3 hgrow3))
  have hgn := (O3.out.lt w2.heap.size rfl).2
  have AX4 := Kept.mk (ax_new w3 w2.heap.size hgn)
  go_loopw [8] (fun q wx => ∃ m : Nat, m ≤ 5 ∧ q = .int .i64 (m : Int) ∧ Kept (wx.ownsRow w.heap.size 3 1 (.slice (some ⟨w2.heap.size, 0, none⟩) l.length l.length) l.length (cntC l.length (gone l k m))) ∧ Kept (AxAt w2.heap.size w3.heap.size wx) ∧ Kept (Below w.heap.size w wx)) (fun q _ => 5 - (intOf q).toNat)
  case atStart => exact ⟨0, by omega, rfl, ⟨O3.out.alloc _⟩, AX4, ⟨B3.out.alloc B3.out.size _⟩⟩
  case round =>
    obtain ⟨m, hm, rfl, HO, HA, HB⟩ := hrel
    have m0 : (0 : Int) ≤ (m : Int) := by omega
    have s4 := HB.out.size
    by_cases hlt : m < 5
    · have m1 : (m : Int) < 5 := by omega
      obtain ⟨X, hX⟩ : ∃ X, axesL[m]? = some X := ⟨_, List.getElem?_eq_getElem (by simpa [axesL] using hlt)⟩
      have hXm := List.mem_of_getElem? hX
      have ca := HA.out.2 m X hX
      have hgs := GST.out m X hX
      obtain ⟨gm, gl⟩ := GME.out X (.inl hXm)
      have hgl := GLN.out m (by omega)
      have hl5 : (gone l k m).length ≤ 5 * 300 := Nat.le_trans hgl (Nat.mul_le_mul (by omega) hl)
      have CX := Kept.mk (CG.out X hXm wr HB.out)
      generalize goL l k X = L at CX hgs gm gl
      have HGS := Kept.mk hgs; have GM := Kept.mk gm
      have hgr : w2.heap.size < wr.heap.size := (HO.out.lt w2.heap.size rfl).2
      clear hX hXm hgs gm hgl
      go_wp2_with (go_at_call 15; refine CX.out.mono ?_; rintro e w5 ⟨v, rfl, hO5, hb5⟩; obtain ⟨A5, c5, rfl⟩ := own_shape_i hO5; have RX := Kept.mk (rdx_of_own (g := w2.heap.size) hO5 hgr); have O5 := Kept.mk (own_below HO.out hb5); have A5' := Kept.mk (ax_below HA.out hb5); have B5 := Kept.mk (HB.out.trans (hb5.mono s4)); clear hO5 hb5)
      obtain ⟨wo, hwo⟩ : ∃ wo : World, wo = wr := ⟨_, rfl⟩
      subst hwo
      go_loopw [10] (fun q wx => ∃ j : Nat, j ≤ L.length ∧ q = .int .i64 (j : Int) ∧ Kept (wx.ownsRow w.heap.size 3 1 (.slice (some ⟨w2.heap.size, 0, none⟩) l.length l.length) l.length (cntC l.length (gone l k m ++ L.take j))) ∧ Kept (RdX w2.heap.size wx A5 L) ∧ Kept (AxAt w2.heap.size w3.heap.size wx) ∧ Kept (Below w.heap.size w wx)) (fun q _ => L.length - (intOf q).toNat)
      case atStart => exact ⟨0, by omega, rfl, ⟨by rw [List.take_zero, List.append_nil]; exact O5.out⟩, RX, A5', B5⟩
      case round =>
        obtain ⟨j, hj, rfl, HO6, RX6, HA6, HB6⟩ := hrel
        have j0 : (0 : Int) ≤ (j : Int) := by omega
        by_cases hlj : j < L.length
        · have j1 : (j : Int) < (L.length : Int) := by omega
          obtain ⟨x, hx⟩ : ∃ x, L[j]? = some x := ⟨_, List.getElem?_eq_getElem hlj⟩
          have hxl := GM.out x (List.mem_of_getElem? hx)
          obtain ⟨bL, rfl, hbn, hcL⟩ := RX6.out (by intro e; subst e; simp at hlj)
          have cx := hcL j x hx
          have htk := take_step hx
          have cN := HO6.out.cellAt x (by omega)
          rw [cntC_get l.length _ x hxl] at cN
          have cF := HO6.out.frozenAt x
          have hcb : (gone l k m ++ L.take j).count x ≤ 2000 := by
            refine Nat.le_trans List.count_le_length ?_
            rw [List.length_append, List.length_take]
            omega
          have hst := (HO6.out.stored x (.int .i64 (((gone l k m ++ L.take j).count x : Nat) + 1))).1
          rw [cntC_set l.length _ x hxl, List.append_assoc, ← htk] at hst
          generalize (gone l k m ++ L.take j).count x = C at cN hcb hst
          have O7 := Kept.mk hst
          have R7 := Kept.mk (rdx_set (j := x) (u := .int .i64 ((C : Int) + 1)) RX6.out)
          have A7 := Kept.mk (ax_set (j := x) (u := .int .i64 ((C : Int) + 1)) HA6.out)
          have B7 := Kept.mk (HB6.out.setCell (p := ⟨w2.heap.size, x, none⟩) B2.out.size (.int .i64 ((C : Int) + 1)))
          have x0 : (0 : Int) ≤ (x : Int) := by omega
          have x1 : (x : Int) < (l.length : Int) := by omega
          have c0' : (0 : Int) ≤ (C : Int) := by omega
          have c1' : (C : Int) ≤ 2000 := by omega
          clear hst hcL hx htk
          go_wp2
          go_roundw
          case rel => exact ⟨j + 1, by omega, by go_num, O7, R7, A7, B7⟩
          case measure => simp [intOf]; omega
        · obtain rfl : j = L.length := by omega
          have O8 : Kept (wr.ownsRow w.heap.size 3 1 (.slice (some ⟨w2.heap.size, 0, none⟩) l.length l.length) l.length (cntC l.length (gone l k (m + 1)))) := ⟨by rw [HGS.out]; have := HO6.out; rwa [List.take_length] at this⟩
          go_wp2
          go_roundw
          case rel => exact ⟨m + 1, by omega, by go_num, O8, HA6, HB6⟩
          case measure => simp [intOf]; omega
    · obtain rfl : m = 5 := by omega
      obtain ⟨hm6, hl6⟩ := GME.out 6 (.inr (.inl rfl))
      obtain ⟨hm5, hl5⟩ := GME.out 5 (.inr (.inr rfl))
      have hkr := fun h => sib_row HC.out hk H3.out h
      have hkl : 0 < k → (kidsB l (Ptr.par l k) false).length ≤ 1000 := fun h => by
        rw [← hkr h, List.length_append, List.length_append, List.length_reverse, List.length_singleton]
        omega
      have HKR := Kept.mk hkr; have HKL := Kept.mk hkl; have HM6 := Kept.mk hm6
      clear hkr hkl hm6 hm5 HA
      obtain ⟨wo, hwo⟩ : ∃ wo : World, wo = wr := ⟨_, rfl⟩
      subst hwo
      go_wp2
      go_loopw [11] (fun q wx => ∃ j : Nat, j ≤ l.length ∧ q = .int .i64 (j : Int) ∧ wx = wo) (fun q _ => l.length - (intOf q).toNat)
      case atStart => exact ⟨0, by omega, rfl, rfl⟩
      case round =>
        obtain ⟨j, hj, rfl, rfl⟩ := hrel
        have j0 : (0 : Int) ≤ (j : Int) := by omega
        by_cases hlj : j < l.length
        · have j1 : (j : Int) < (l.length : Int) := by omega
          have cN := HO.out.cellAt j (by omega)
          rw [cntC_get l.length _ j hlj, GCT.out j hlj] at cN
          have cK := (((HR.out.below HB.out).cells (i := j) hlj)).1
          simp only at cK
          by_cases h3 : Ptr.kin l j = 3
          · rw [if_pos h3] at cN
            rw [h3] at cK
            replace cN := Kept.mk cN
            have cN2 := cN.out
            go_wp2
            go_roundw
            case rel => exact ⟨j + 1, by omega, by go_num, trivial⟩
            case measure => simp [intOf]; omega
          · rw [if_neg h3] at cN
            generalize Ptr.kin l j = K at h3 cK
            have q4 : (((K : Nat) : Int) != 3) = true := by simp; omega
            have q5 : (((K : Nat) : Int) == 3) = false := by simp; omega
            go_wp2
            go_roundw
            case rel => exact ⟨j + 1, by omega, by go_num, trivial⟩
            case measure => simp [intOf]; omega
        · obtain rfl : j = l.length := by omega
          by_cases hk0 : k = 0
          · have u0 : ((k : Int) == 0) = true := by simp; omega
            go_wp2
            go_ret
            exact ⟨rfl, HB.out⟩
          · have u0 : ((k : Int) == 0) = false := by simp; omega
            have s8 := HB.out.size
            have C6 := Kept.mk (CG6.out _ HB.out)
            have E := Kept.mk (HKR.out (by omega))
            have EL := HKL.out (by omega)
            generalize goL l k 6 = L6 at C6 E hl6 HM6
            generalize goL l k 5 = L5 at CG5 E hl5
            generalize kidsB l (Ptr.par l k) false = LK at CKi E EL
            clear HO GST GCT GLN GME HKR HKL CC CA CK
            go_wp2_with (go_at_call 15; refine C6.out.mono ?_; rintro e w6 ⟨v6, rfl, hO6, hb6⟩; obtain ⟨A6, c6, rfl⟩ := own_shape_i hO6; have O6 := Kept.mk hO6; have B6 := Kept.mk (HB.out.trans (hb6.mono s8)); clear hO6 hb6)
            obtain ⟨i0', hi, hz0, hz1, hz2⟩ := info_parts infoI'
            have s6 := B6.out.size
            go_loopw [12, 14] (fun v q wx => ∃ j n : Nat, j + n = L6.length ∧ q = .int .i64 ((j : Int) - 1) ∧ Kept (wx.ownsRow w6.heap.size 3 1 v n (ic (L6.drop j).reverse)) ∧ Kept (Below w6.heap.size w6 wx)) (fun _ q _ => (intOf q + 1).toNat)
            case atStart => exact ⟨L6.length, 0, rfl, by first | rfl | go_num, ⟨by rw [List.drop_length]; exact ⟨rfl, .inl ⟨rfl, rfl⟩⟩⟩, ⟨Below.refl _ _⟩⟩
            case round =>
              obtain ⟨j, n, hjn, rfl, HV, HX⟩ := hrel
              by_cases hj0 : 0 < j
              · obtain ⟨i, rfl⟩ : ∃ i, j = i + 1 := ⟨j - 1, by omega⟩
                obtain ⟨x, hx⟩ : ∃ x, L6[i]? = some x := ⟨_, List.getElem?_eq_getElem (by omega)⟩
                obtain ⟨g6, d6, e6, _⟩ := own_block O6.out (by omega)
                obtain ⟨rfl, rfl⟩ : A6 = some ⟨g6, 0, none⟩ ∧ c6 = d6 := by simpa using e6
                have cx := cell_keep HX.out (own_at O6.out i _ (by unfold ic; rw [List.getElem?_map, hx]; rfl : (ic L6)[i]? = some (.int .i64 ((x : Nat) : Int))))
                have ei : ((i + 1 : Nat) : Int) - 1 = (i : Int) := by omega
                rw [ei]
                have i1 : (0 : Int) ≤ (i : Int) := by omega
                have i2 : (i : Int) < (L6.length : Int) := by omega
                have sx := HX.out.size
                have BX := Kept.mk (HX.out.alloc sx (.cells #[.int .i64 (x : Int)] 3))
                have OX := Kept.mk (HV.out.alloc (.cells #[.int .i64 (x : Int)] 3))
                clear e6 ei
                go_wp2_with (at_builtin; refine wpList_append_ints rfl (.tmp 127) (.tmp 132) rfl w6.heap.size wr.heap.size _ (.slice (some ⟨wr.heap.size, 0, none⟩) 1 1) n 1 (ic (L6.drop (i + 1)).reverse) [x] (by rfl) OX.out (by rfl) (own_one _ x) (by omega) BX.out.size ?_; intro v7 w7 hO7 hg7; have B7 := Kept.mk (BX.out.grown hg7 BX.out.size (fun q hq => (OX.out.lt q hq).1)); have O7 := Kept.mk (row_step hx hO7); clear hO7 hg7)
                go_roundw
                case rel => exact ⟨i, n + 1, by omega, by go_num, O7, B7⟩
                case measure => simp [intOf]
              · obtain rfl : j = 0 := by omega
                obtain rfl : n = L6.length := by omega
                have sx := HX.out.size
                have BX := Kept.mk (HX.out.alloc sx (.cells #[.int .i64 (k : Int)] 3))
                have OX := Kept.mk (HV.out.alloc (.cells #[.int .i64 (k : Int)] 3))
                clear O6
                go_wp2_with (first | (at_builtin; refine wpList_append_ints rfl (.tmp 134) (.tmp 136) rfl w6.heap.size wr.heap.size _ (.slice (some ⟨wr.heap.size, 0, none⟩) 1 1) L6.length 1 (ic (L6.drop 0).reverse) [k] (by rfl) OX.out (by rfl) (own_one _ k) (by omega) BX.out.size ?_; intro v7 w7 hO7 hg7; have X7 := Kept.mk (BX.out.grown hg7 BX.out.size (fun q hq => (OX.out.lt q hq).1)); have O7 := Kept.mk hO7; have B7 := Kept.mk (B6.out.trans (X7.out.mono s6)); clear hO7 hg7) | (go_at_call 15; refine (CG5.out _ B7.out).mono ?_; rintro e w8 ⟨v8, rfl, hO8, hb8⟩; have O8 := Kept.mk hO8; have O7' := Kept.mk (own_below O7.out hb8); have B8 := Kept.mk (B7.out.trans (hb8.mono B7.out.size)); have s9 := Nat.le_trans X7.out.size hb8.size; clear hO8 hb8) | (at_builtin; refine wpList_append_ints rfl (.tmp 137) (.tmp 140) rfl w6.heap.size w7.heap.size _ v8 (L6.length + 1) L5.length (ic (L6.drop 0).reverse ++ ic [k]) L5 (by rfl) O7'.out (by rfl) O8.out (by omega) s9 ?_; intro v9 w9 hO9 hg9; have O9 := Kept.mk (row_whole E.out hO9); have B9 := Kept.mk (B8.out.grown hg9 B8.out.size (fun q hq => Nat.le_trans s6 (O7'.out.lt q hq).1)); have ck3 := cell_keep B9.out CK3.out; clear hO9 hg9) | (go_at_call 17; refine (CKi.out _ B9.out).mono ?_; rintro e w10 ⟨vk, rfl, hO10, hb10⟩; have O10 := Kept.mk hO10; have O9' := Kept.mk (own_below O9.out hb10); have B10 := Kept.mk (B9.out.trans (hb10.mono B9.out.size)); clear hO10 hb10) | (go_at_call 16; refine (sameRow_any LK _ _ _ _ _ O9'.out O10.out (by omega)).mono ?_; rintro e w11 ⟨rfl, hb11⟩; have B11 := Kept.mk (B10.out.trans (hb11.mono B10.out.size)); clear hb11))
                go_ret
                exact ⟨rfl, B11.out⟩
theorem law_parts (A : Option Addr) (l : List Ptr.Nd) (c : Nat) (a : Int) (w : World) (hr : RdN w A l) (hf : FitP l) (hE : TEnv w) :
    Calls Tryd.prog 5 #[.slice A l.length c, .int .i64 a] w fun e w' => e = .returned (.bool true) ∧ Below w.heap.size w w' := by
  by_cases hno : 300 < l.length ∨ Ptr.chk l true ≠ 0
  · exact parts_no A l c a w hr hf hE hno
  · have hl : l.length ≤ 300 := by omega
    have hC : Ptr.chk l true = 0 := by omega
    by_cases h3 : Ptr.kin l (pickV a l.length) = 3
    · exact parts_attr A l c a w hr hf hE hl hC h3
    · exact parts_node A l c a w hr hf hE hl hC h3
end Go.Proofs.YtkcpfjhdbbapiaaDoor.Wtr
