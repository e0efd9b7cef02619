/- The document's fits as a whole (chapter 06), and that it is the plain one. -/
import Derived.Test.YtkjodleggfacbaaDoorTreeWalksE2
namespace Go.Proofs.YtkjodleggfacbaaDoor.Wtr
open Go Go.RowKit Go.Proofs.YtkjodleggfacbaaDoor.Kb

set_option maxRecDepth 100000 in
set_option maxHeartbeats 4000000 in
theorem rfits_none (A : Option Addr) (l : List Ptr.Nd) (c i : Nat) (w : World) (hr : RdN w A l) (hi : i < l.length) (hP : -1 ≤ Ptr.par l i ∧ Ptr.par l i < i) (hv : (Ptr.val l i).length ≤ 4611686018427387904)
    (hx : Pch.textsL (Ptr.val l i) = true) (hlen : (Ptr.val l i).length ≤ 65536) (h1 : Ptr.kin l i ≠ 1) (h2 : Ptr.kin l i ≠ 2) (h3 : Ptr.kin l i ≠ 3) (h4 : Ptr.kin l i ≠ 4) (h5 : Ptr.kin l i ≠ 5) (h6 : Ptr.kin l i ≠ 6) :
    Calls Tryd.prog 41 #[.slice A l.length c, .int .i64 i] w fun e w' => e = .returned (.bool false) ∧ Below w.heap.size w w' := by
  obtain ⟨b, off, rfl, q0, q1, q2, q3⟩ := hr.at_ hi
  have cP := fun wx hx => refParent_any (some ⟨b, off, none⟩) l c i wx hx hi (by omega)
  have cT := fun wx => texts_call (Ptr.val l i) wx hv
  have HR := Kept.mk hr
  have i0 : (0 : Int) ≤ (i : Int) := by omega
  have i1 : (i : Int) < (l.length : Int) := by omega
  simp only at q0 q1 q2 q3
  rw [hx] at cT
  obtain ⟨V, hV⟩ : ∃ V : ByteArray, V = ⟨(Ptr.val l i).toArray⟩ := ⟨_, rfl⟩
  have hVs : V.size = (Ptr.val l i).length := by rw [hV]; show (Ptr.val l i).toArray.size = _; simp
  have v1 : ¬ (65536 : Int) < (V.size : Int) := by omega
  rw [← hV] at q2 cT
  generalize hU : upK l (Ptr.par l i) = U at cP
  have HP := Kept.mk cP
  generalize Ptr.kin l i = K at q0 h1 h2 h3 h4 h5 h6
  have k1 : ((K : Int) == 1) = false := by simp; omega
  have k2 : ((K : Int) == 2) = false := by simp; omega
  have k3 : ((K : Int) == 3) = false := by simp; omega
  have k4 : ((K : Int) == 4) = false := by simp; omega
  have k5 : ((K : Int) == 5) = false := by simp; omega
  have k6 : ((K : Int) == 6) = false := by simp; omega
  have u0 := beq_cast U 0
  have u2 := beq_cast U 2
  have u1 := beq_cast U 1
  change ((U : Int) == 0) = (U == 0) at u0
  change ((U : Int) == 2) = (U == 2) at u2
  change ((U : Int) == 1) = (U == 1) at u1
  generalize (U == 0) = x0 at u0
  generalize (U == 2) = x2 at u2
  generalize (U == 1) = x1 at u1
  have CT := Kept.mk cT
  clear cP cT hr hv hx hV hVs hlen hU h1 h2 h3 h4 h5 h6
  cases x0 <;> cases x2 <;> cases x1
  all_goals
    go_enter Tryd.func41, Tryd.ntmps41
    go_wp2_with (first | (go_at_call 51; refine (HP.out _ (HR.out.below (box_below _ _))).mono ?_; rintro e w' ⟨rfl, rfl⟩) | (go_at_call 52; refine (CT.out _).mono ?_; rintro e w' ⟨rfl, rfl⟩))
    go_ret
    exact ⟨rfl, box_below _ _⟩
theorem refFits_any (A : Option Addr) (l : List Ptr.Nd) (c i : Nat) (w : World) (hr : RdN w A l) (hi : i < l.length) (hR : Ptr.Rng l (i + 1)) (hl : l.length ≤ 100000) (hn : (Ptr.nam l i).length ≤ 4611686018427387904) (hv : (Ptr.val l i).length ≤ 4611686018427387904) :
    Calls Tryd.prog 41 #[.slice A l.length c, .int .i64 i] w fun e w' => e = .returned (.bool (refFitsB l i)) ∧ Below w.heap.size w w' := by
  have hP := hR i (by omega)
  have hRg : Ptr.Rng l i := fun k hk => hR k (by omega)
  unfold refFitsB
  cases hx : Pch.textsL (Ptr.val l i) with
  | false => exact rfits_notext A l c i w hr hi hP hn hv hx
  | true =>
    by_cases hlen : (Ptr.val l i).length ≤ 65536
    · rw [decide_eq_true hlen, Bool.true_and, Bool.true_and]
      unfold refK
      by_cases k1 : Ptr.kin l i = 1
      · rw [if_pos k1]; exact rfits_1 A l c i w hr hi hP hn hv hx hlen k1
      rw [if_neg k1]
      by_cases k2 : Ptr.kin l i = 2
      · rw [if_pos k2]; exact rfits_2 A l c i w hr hi hP hn hv hx hlen k2
      rw [if_neg k2]
      by_cases k3 : Ptr.kin l i = 3
      · rw [if_pos k3]; exact rfits_3 A l c i w hr hi hP hn hv hl hx hlen k3
      rw [if_neg k3]
      by_cases k4 : Ptr.kin l i = 4
      · rw [if_pos k4]; exact rfits_4 A l c i w hr hi hP hn hv hRg hl hx hlen k4
      rw [if_neg k4]
      by_cases k5 : Ptr.kin l i = 5
      · rw [if_pos k5]; exact rfits_5 A l c i w hr hi hP hn hv hx hlen k5
      rw [if_neg k5]
      by_cases k6 : Ptr.kin l i = 6
      · rw [if_pos k6]; exact rfits_6 A l c i w hr hi hP hn hv hx hlen k6
      rw [if_neg k6]
      exact rfits_none A l c i w hr hi hP hv hx hlen k1 k2 k3 k4 k5 k6
    · rw [decide_eq_false hlen, Bool.and_false, Bool.false_and]
      exact rfits_long A l c i w hr hi hP hn hv hx (by omega)

/-! ### it is the plain one, where all ahead is right -/
/-- the document's test of one node -/
def refGood (l : List Ptr.Nd) (root : Bool) (i : Nat) : Bool := refFitsB l i && ((Ptr.kin l i == 1) == (root && i == 0))
theorem up_kind {l : List Ptr.Nd} {i : Nat} (hP : Ptr.par l i < 0 ∨ Ptr.kin l (Ptr.par l i).toNat ≠ 0) : insU (upK l (Ptr.par l i)) = Ptr.insideB l (Ptr.par l i) ∧ (upK l (Ptr.par l i) == 0 || upK l (Ptr.par l i) == 2) = Ptr.underB l (Ptr.par l i) ∧ decide (upK l (Ptr.par l i) = 2) = Ptr.elemB l (Ptr.par l i) := by
  unfold insU upK Ptr.insideB Ptr.underB Ptr.elemB
  by_cases h : Ptr.par l i < 0
  · simp [h]
  · rw [if_neg h, decide_eq_false h]
    have h0 : Ptr.kin l (Ptr.par l i).toNat ≠ 0 := hP.resolve_left h
    generalize Ptr.kin l (Ptr.par l i).toNat = K at h0
    have e0 : (K == 0) = false := by simpa using h0
    rw [e0]
    refine ⟨?_, ?_, ?_⟩
    · simp only [Bool.false_or, Bool.or_comm]
    · simp
    · rw [Bool.eq_iff_iff]; simp
theorem fits_kind {l : List Ptr.Nd} {k : Nat} (h : Ptr.fitsB l k = true) : Ptr.kin l k ≠ 0 ∧ Ptr.kin l k ≠ 1 := by
  unfold Ptr.fitsB Ptr.fitsK at h
  constructor
  · intro e; rw [e] at h; simp at h
  · intro e; rw [e] at h; simp at h
theorem good_kind {l : List Ptr.Nd} {root : Bool} {k : Nat} (h : Ptr.good l root k = true) : Ptr.kin l k ≠ 0 := by
  unfold Ptr.good at h
  rw [Bool.and_eq_true] at h
  have h := h.2
  split at h
  · unfold Ptr.headB at h
    simp only [Bool.and_eq_true, decide_eq_true_eq] at h
    omega
  · exact (fits_kind h).1
theorem refK_fits {l : List Ptr.Nd} {root : Bool} {i : Nat} (ha : Ptr.allB l root i = true) (ho : Ptr.openB l i = true) (h1 : Ptr.kin l i ≠ 1) : refK l i = Ptr.fitsK l i := by
  have hr := Ptr.allB_rng ha
  have hp := Ptr.open_range hr ho
  have hP : Ptr.par l i < 0 ∨ Ptr.kin l (Ptr.par l i).toNat ≠ 0 := by
    by_cases h : Ptr.par l i < 0
    · exact .inl h
    · exact .inr (good_kind (Ptr.allB_good ha (Ptr.par l i).toNat (by omega)))
  obtain ⟨u1, u2, u3⟩ := up_kind hP
  unfold refK Ptr.fitsK
  rw [if_neg h1, u1, u2]
  by_cases k2 : Ptr.kin l i = 2
  · rw [if_pos k2, if_pos k2]
  rw [if_neg k2, if_neg k2]
  by_cases k3 : Ptr.kin l i = 3
  · rw [if_pos k3, if_pos k3]
    unfold refAttrB
    rw [u3]
    by_cases h0 : Ptr.par l i < 0
    · have e : Ptr.elemB l (Ptr.par l i) = false := by unfold Ptr.elemB; rw [decide_eq_true h0]; rfl
      rw [e]
      rfl
    · rw [Ptr.attrs_eq ha ho (by omega), Bool.and_assoc, Bool.and_assoc, Bool.and_assoc]
  rw [if_neg k3, if_neg k3]
theorem ref_is {l : List Ptr.Nd} {root : Bool} {i : Nat} (ha : Ptr.allB l root i = true) (ho : Ptr.openB l i = true) : refGood l root i = (if (root && i == 0) = true then Ptr.headB l i else Ptr.fitsB l i) := by
  unfold refGood refFitsB
  by_cases hri : (root && i == 0) = true
  · rw [if_pos hri, hri]
    have hi : i = 0 := by
      rw [Bool.and_eq_true, beq_iff_eq] at hri
      exact hri.2
    unfold Ptr.headB
    by_cases k1 : Ptr.kin l i = 1
    · unfold refK
      rw [if_pos k1, k1, hi]
      by_cases hv : Ptr.val l 0 = []
      · have ht : Pch.textsL [] = true := rfl
        rw [hv, ht]
        simp
      · simp [hv]
    · have e : (Ptr.kin l i == 1) = false := by simpa using k1
      rw [e, decide_eq_false k1]
      simp
  · rw [if_neg hri]
    have hf : (root && i == 0) = false := by simpa using hri
    rw [hf]
    by_cases k1 : Ptr.kin l i = 1
    · have e : (Ptr.kin l i == 1) = true := by simpa using k1
      have h2 : Ptr.fitsB l i = false := by
        cases h : Ptr.fitsB l i with
        | false => rfl
        | true => exact absurd k1 (fits_kind h).2
      rw [e, h2]
      simp
    · have e : (Ptr.kin l i == 1) = false := by simpa using k1
      rw [e, refK_fits ha ho k1]
      unfold Ptr.fitsB
      simp
end Go.Proofs.YtkjodleggfacbaaDoor.Wtr
