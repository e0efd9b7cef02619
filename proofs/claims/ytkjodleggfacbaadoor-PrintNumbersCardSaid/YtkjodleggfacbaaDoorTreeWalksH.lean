/- The walk over the document's check (chapter 06). -/
import Derived.Test.YtkjodleggfacbaaDoorTreeWalksG
namespace Go.Proofs.YtkjodleggfacbaaDoor.Wtr
open Go Go.RowKit Go.Proofs.YtkjodleggfacbaaDoor.Kb

theorem allB_opens {l : List Ptr.Nd} {root : Bool} : ∀ {n : Nat}, Ptr.allB l root n = true → opens l n = true
  | 0, _ => rfl
  | n + 1, h => by
    unfold Ptr.allB at h
    rw [Bool.and_eq_true] at h
    unfold opens
    rw [allB_opens h.1, Ptr.good_open h.2]
    rfl
theorem opens_at {l : List Ptr.Nd} : ∀ {n : Nat}, opens l n = true → ∀ k, k < n → Ptr.openB l k = true
  | 0, _, k, hk => by omega
  | n + 1, h, k, hk => by
    unfold opens at h
    rw [Bool.and_eq_true] at h
    by_cases e : k = n
    · subst e; exact h.2
    · exact opens_at h.1 k (by omega)
theorem allB_no {l : List Ptr.Nd} {root : Bool} {i : Nat} (h : Ptr.good l root i = false) (n : Nat) (hi : i < n) : Ptr.allB l root n = false := by
  cases ha : Ptr.allB l root n with
  | false => rfl
  | true => rw [Ptr.allB_good ha i hi] at h; cases h
theorem good_ref {l : List Ptr.Nd} {root : Bool} {i : Nat} (ha : Ptr.allB l root i = true) (ho : Ptr.openB l i = true) : Ptr.good l root i = refGood l root i := by
  rw [ref_is ha ho]
  unfold Ptr.good
  rw [ho, Bool.true_and]
theorem chk_shape {l : List Ptr.Nd} {root : Bool} (h0 : ¬ 16384 < l.length) (h : Ptr.allB l root l.length = false) : Ptr.chk l root = 4 := by
  unfold Ptr.chk
  rw [if_neg h0, if_pos h]
theorem deepest_step (l : List Ptr.Nd) (i : Nat) : decide (60 < Ptr.deepest l (i + 1)) = (decide (60 < Ptr.deepest l i) || (Ptr.kin l i == 2 && decide (60 < Ptr.depN l i))) := by
  rw [Ptr.deepest]
  by_cases h : Ptr.kin l i = 2
  · rw [if_pos h, h, Bool.eq_iff_iff]
    simp only [Bool.or_eq_true, decide_eq_true_eq, beq_self_eq_true, Bool.true_and]
    omega
  · rw [if_neg h, beq_eq_false_iff_ne.2 h, Bool.false_and, Bool.or_false]
theorem tops_le (l : List Ptr.Nd) : ∀ i, Ptr.tops l i ≤ i
  | 0 => Nat.le_refl _
  | i + 1 => by
    have := tops_le l i
    unfold Ptr.tops
    split <;> omega
theorem elems_le (l : List Ptr.Nd) : ∀ i, Ptr.elems l i ≤ i
  | 0 => Nat.le_refl _
  | i + 1 => by
    have := elems_le l i
    unfold Ptr.elems
    split <;> omega
theorem depN_le (l : List Ptr.Nd) : ∀ f i, Ptr.dep l f i ≤ f
  | 0, _ => Nat.le_refl _
  | f + 1, i => by
    unfold Ptr.dep
    have := depN_le l f (Ptr.par l i).toNat
    split <;> split <;> omega
theorem below_step {w w1 w2 : World} (h : Below w.heap.size w w1) (h' : Below w1.heap.size w1 w2) : Below w.heap.size w w2 := h.trans (h'.mono h.size)
def FitL (l : List Ptr.Nd) : Prop := ∀ i, (Ptr.nam l i).length ≤ 4611686018427387904 ∧ (Ptr.val l i).length ≤ 4611686018427387904
set_option maxRecDepth 100000 in
set_option maxHeartbeats 8000000 in
theorem refCheck_any (A : Option Addr) (l : List Ptr.Nd) (c : Nat) (root : Bool) (w : World) (hr : RdN w A l) (hl : l.length ≤ 100000) (hf : FitL l) :
    Calls Tryd.prog 34 #[.slice A l.length c, .bool root] w fun e w' => e = .returned (.int .i64 (Ptr.chk l root)) ∧ Below w.heap.size w w' := by
  have HRD := Kept.mk hr
  have HF := Kept.mk hf
  have cI := fun wx hx => refInOrder_any A l c wx hx hl
  clear hr hf
  by_cases hbig : 16384 < l.length
  · have hX : Kept (Ptr.chk l root = 3) := ⟨by unfold Ptr.chk; rw [if_pos hbig]⟩
    have b1 : (16384 : Int) < (l.length : Int) := by omega
    clear cI hbig
    go_enter Tryd.func34, Tryd.ntmps34
    go_wp2
    go_ret
    exact ⟨ret_i64 (by rw [hX.out]; rfl), Below.refl _ _⟩
  have b1 : ¬ (16384 : Int) < (l.length : Int) := by omega
  cases hop : opens l l.length with
  | false =>
    rw [hop] at cI
    have hX : Kept (Ptr.chk l root = 4) := ⟨chk_shape hbig (by
      cases ha : Ptr.allB l root l.length with
      | false => rfl
      | true => rw [allB_opens ha] at hop; cases hop)⟩
    have CI := Kept.mk cI
    clear cI hbig hop
    go_enter Tryd.func34, Tryd.ntmps34
    go_wp2_with (go_at_call 40; refine (CI.out _ HRD.out).mono ?_; rintro e w' ⟨rfl, rfl⟩)
    go_ret
    exact ⟨ret_i64 (by rw [hX.out]; rfl), Below.refl _ _⟩
  | true =>
    rw [hop] at cI
    have CI := Kept.mk cI
    have HB := Kept.mk hbig
    have HO := Kept.mk (opens_at hop)
    have HRG := Kept.mk (opens_rng hop)
    clear cI hbig hop
    go_enter Tryd.func34, Tryd.ntmps34
    go_wp2_with (go_at_call 40; refine (CI.out _ HRD.out).mono ?_; rintro e w' ⟨rfl, rfl⟩)
    go_loopw [5, 6, 7, 8] (fun t m d i wx => ∃ k T M : Nat, ∃ D : Bool, k ≤ l.length ∧ i = .int .i64 k ∧ t = .int .i64 T ∧ m = .int .i64 M ∧ d = .bool D ∧ T ≤ k ∧ M ≤ k ∧ Kept (Ptr.allB l root k = true) ∧ Kept (Ptr.tops l k = T) ∧ Kept (Ptr.elems l k = M) ∧ Kept (decide (60 < Ptr.deepest l k) = D) ∧ Below w.heap.size w wx) (fun _ _ _ i _ => l.length - (intOf i).toNat)
    case atStart => exact ⟨0, 0, 0, false, by omega, rfl, rfl, rfl, rfl, by omega, by omega, ⟨rfl⟩, ⟨rfl⟩, ⟨rfl⟩, ⟨rfl⟩, Below.refl _ _⟩
    case round =>
      obtain ⟨k, T, M, D, hk, rfl, rfl, rfl, rfl, hT, hM, HA, HT, HM, HD, hb⟩ := hrel
      have HBB := Kept.mk hb
      have i0 : (0 : Int) ≤ (k : Int) := by omega
      by_cases hlt : k < l.length
      · have i1 : (k : Int) < (l.length : Int) := by omega
        have ho := HO.out k hlt
        have hgr := good_ref HA.out ho
        have hRk : Ptr.Rng l (k + 1) := fun j hj => HRG.out j (by omega)
        obtain ⟨n0, n1⟩ := hRk k (by omega)
        have cF := fun wx hx => refFits_any A l c k wx hx hlt hRk hl (HF.out k).1 (HF.out k).2
        have cD := fun wx hx => refDeep_any A l c k wx hx hlt hRk hl
        obtain ⟨b, off, rfl, c0, _, _, c3⟩ := (HRD.out.below hb).at_ hlt
        have HC := Kept.mk (fun wx (hx : Below wr.heap.size wr wx) => (RdN.below (HRD.out.below hb) hx))
        have HN := Kept.mk (fun wx (hx : Below wr.heap.size wr wx) => (NdAt.below (((HRD.out.below hb).cells hlt)) hx))
        have hdl : Ptr.depN l k ≤ k + 1 := depN_le l (k + 1) k
        have hTs : Ptr.tops l (k + 1) = T + if Ptr.par l k < 0 then 1 else 0 := by rw [Ptr.tops, HT.out]
        have hMs : Ptr.elems l (k + 1) = M + if Ptr.kin l k = 2 ∧ Ptr.par l k = 0 then 1 else 0 := by rw [Ptr.elems, HM.out]
        have hDs := deepest_step l k
        rw [HD.out] at hDs
        have hAs : Ptr.allB l root (k + 1) = Ptr.good l root k := by rw [Ptr.allB, HA.out, Bool.true_and]
        unfold refGood at hgr
        simp only at c0 c3
        generalize hK : Ptr.kin l k = K at c0 hMs hDs hgr
        generalize hPP : Ptr.par l k = P at c3 hTs hMs n0 n1
        generalize hNN : Ptr.depN l k = N at cD hdl hDs
        have u1 : ((K : Int) == 1) = (K == 1) := beq_cast K 1
        have u2 : ((K : Int) == 2) = (K == 2) := beq_cast K 2
        have s0 : ((k : Int) == 0) = (k == 0) := beq_cast k 0
        have hx2 : (K = 2 ∧ P = 0) ↔ ((K == 2) = true ∧ P = 0) := by simp
        generalize (K == 1) = x1 at u1 hgr
        generalize hxx : (K == 2) = x2 at u2 hDs hx2
        generalize (k == 0) = S at s0 hgr
        generalize hff : refFitsB l k = B at cF hgr
        have CF := Kept.mk cF
        have CD := Kept.mk cD
        have HTs := Kept.mk hTs
        have HMs := Kept.mk hMs
        have HDs := Kept.mk hDs
        have HAs := Kept.mk hAs
        have HGR := Kept.mk hgr
        have HX2 := Kept.mk hx2
        have HKE := Kept.mk hK
        have HPE := Kept.mk hPP
        clear cF cD hTs hMs hDs hAs hgr hx2 hK hPP hxx hff ho hb
        have bad : Ptr.good l root k = false → Kept (Ptr.chk l root = 4) := fun e => ⟨chk_shape HB.out (allB_no e _ hlt)⟩
        have BAD := Kept.mk bad
        clear bad
        cases B with
        | false =>
          have hX := BAD.out (by rw [HGR.out]; rfl)
          go_wp2_with (go_at_call 41; refine (CF.out _ (HRD.out.below HBB.out)).mono ?_; rintro e w5 ⟨rfl, hb5⟩; obtain ⟨c0, _, _, c3⟩ := HN.out _ hb5; simp only [HKE.out, HPE.out] at c0 c3)
          go_ret
          exact ⟨ret_i64 (by rw [hX.out]; rfl), below_step HBB.out hb5⟩
        | true =>
          cases root with
          | true =>
            cases S with
            | true =>
              cases x1 with
              | true =>
                have hA2 : Kept (Ptr.allB l true (k + 1) = true) := ⟨by rw [HAs.out, HGR.out]; rfl⟩
                rcases Int.lt_trichotomy P 0 with hp | hp | hp
                · have hT2 : Kept (Ptr.tops l (k + 1) = T + 1) := ⟨by rw [HTs.out]; rw [if_pos hp]⟩
                  have pe : (P == 0) = false := by simp; omega
                  cases x2 with
                  | false =>
                    have hM2 : Kept (Ptr.elems l (k + 1) = M) := ⟨by rw [HMs.out, if_neg (by rw [HX2.out]; simp), Nat.add_zero]⟩
                    have hD2 : Kept (decide (60 < Ptr.deepest l (k + 1)) = D) := ⟨by rw [HDs.out]; simp⟩
                    go_wp2_with (first | (go_at_call 41; refine (CF.out _ (HRD.out.below HBB.out)).mono ?_; rintro e w5 ⟨rfl, hb5⟩; obtain ⟨c0, _, _, c3⟩ := HN.out _ hb5; simp only [HKE.out, HPE.out] at c0 c3) | (go_at_call 42; refine (CD.out _ (HC.out _ hb5)).mono ?_; rintro e w' ⟨rfl, rfl⟩))
                    go_roundw
                    case rel => exact ⟨k + 1, T + 1, M, D, by omega, by go_num, by go_num, by go_num, rfl, by omega, by omega, hA2, hT2, hM2, hD2, below_step HBB.out hb5⟩
                    case measure => simp [intOf]; omega
                  | true =>
                    by_cases hn : 60 < N
                    · have nl : (60 : Int) < (N : Int) := by omega
                      have hM2 : Kept (Ptr.elems l (k + 1) = M) := ⟨by rw [HMs.out, if_neg (by rw [HX2.out]; simp; omega), Nat.add_zero]⟩
                      have hD2 : Kept (decide (60 < Ptr.deepest l (k + 1)) = true) := ⟨by rw [HDs.out]; simp; omega⟩
                      go_wp2_with (first | (go_at_call 41; refine (CF.out _ (HRD.out.below HBB.out)).mono ?_; rintro e w5 ⟨rfl, hb5⟩; obtain ⟨c0, _, _, c3⟩ := HN.out _ hb5; simp only [HKE.out, HPE.out] at c0 c3) | (go_at_call 42; refine (CD.out _ (HC.out _ hb5)).mono ?_; rintro e w' ⟨rfl, rfl⟩))
                      go_roundw
                      case rel => exact ⟨k + 1, T + 1, M, true, by omega, by go_num, by go_num, by go_num, rfl, by omega, by omega, hA2, hT2, hM2, hD2, below_step HBB.out hb5⟩
                      case measure => simp [intOf]; omega
                    · have nl : ¬ (60 : Int) < (N : Int) := by omega
                      have hM2 : Kept (Ptr.elems l (k + 1) = M) := ⟨by rw [HMs.out, if_neg (by rw [HX2.out]; simp; omega), Nat.add_zero]⟩
                      have hD2 : Kept (decide (60 < Ptr.deepest l (k + 1)) = D) := ⟨by rw [HDs.out]; simp; omega⟩
                      go_wp2_with (first | (go_at_call 41; refine (CF.out _ (HRD.out.below HBB.out)).mono ?_; rintro e w5 ⟨rfl, hb5⟩; obtain ⟨c0, _, _, c3⟩ := HN.out _ hb5; simp only [HKE.out, HPE.out] at c0 c3) | (go_at_call 42; refine (CD.out _ (HC.out _ hb5)).mono ?_; rintro e w' ⟨rfl, rfl⟩))
                      go_roundw
                      case rel => exact ⟨k + 1, T + 1, M, D, by omega, by go_num, by go_num, by go_num, rfl, by omega, by omega, hA2, hT2, hM2, hD2, below_step HBB.out hb5⟩
                      case measure => simp [intOf]; omega
                · subst hp
                  have hT2 : Kept (Ptr.tops l (k + 1) = T) := ⟨by rw [HTs.out]; rw [if_neg (by omega), Nat.add_zero]⟩
                  have pe : ((0 : Int) == 0) = true := rfl
                  cases x2 with
                  | false =>
                    have hM2 : Kept (Ptr.elems l (k + 1) = M) := ⟨by rw [HMs.out, if_neg (by rw [HX2.out]; simp), Nat.add_zero]⟩
                    have hD2 : Kept (decide (60 < Ptr.deepest l (k + 1)) = D) := ⟨by rw [HDs.out]; simp⟩
                    go_wp2_with (first | (go_at_call 41; refine (CF.out _ (HRD.out.below HBB.out)).mono ?_; rintro e w5 ⟨rfl, hb5⟩; obtain ⟨c0, _, _, c3⟩ := HN.out _ hb5; simp only [HKE.out, HPE.out] at c0 c3) | (go_at_call 42; refine (CD.out _ (HC.out _ hb5)).mono ?_; rintro e w' ⟨rfl, rfl⟩))
                    go_roundw
                    case rel => exact ⟨k + 1, T, M, D, by omega, by go_num, by go_num, by go_num, rfl, by omega, by omega, hA2, hT2, hM2, hD2, below_step HBB.out hb5⟩
                    case measure => simp [intOf]; omega
                  | true =>
                    by_cases hn : 60 < N
                    · have nl : (60 : Int) < (N : Int) := by omega
                      have hM2 : Kept (Ptr.elems l (k + 1) = M + 1) := ⟨by rw [HMs.out, if_pos (by rw [HX2.out]; simp)]⟩
                      have hD2 : Kept (decide (60 < Ptr.deepest l (k + 1)) = true) := ⟨by rw [HDs.out]; simp; omega⟩
                      go_wp2_with (first | (go_at_call 41; refine (CF.out _ (HRD.out.below HBB.out)).mono ?_; rintro e w5 ⟨rfl, hb5⟩; obtain ⟨c0, _, _, c3⟩ := HN.out _ hb5; simp only [HKE.out, HPE.out] at c0 c3) | (go_at_call 42; refine (CD.out _ (HC.out _ hb5)).mono ?_; rintro e w' ⟨rfl, rfl⟩))
                      go_roundw
                      case rel => exact ⟨k + 1, T, M + 1, true, by omega, by go_num, by go_num, by go_num, rfl, by omega, by omega, hA2, hT2, hM2, hD2, below_step HBB.out hb5⟩
                      case measure => simp [intOf]; omega
                    · have nl : ¬ (60 : Int) < (N : Int) := by omega
                      have hM2 : Kept (Ptr.elems l (k + 1) = M + 1) := ⟨by rw [HMs.out, if_pos (by rw [HX2.out]; simp)]⟩
                      have hD2 : Kept (decide (60 < Ptr.deepest l (k + 1)) = D) := ⟨by rw [HDs.out]; simp; omega⟩
                      go_wp2_with (first | (go_at_call 41; refine (CF.out _ (HRD.out.below HBB.out)).mono ?_; rintro e w5 ⟨rfl, hb5⟩; obtain ⟨c0, _, _, c3⟩ := HN.out _ hb5; simp only [HKE.out, HPE.out] at c0 c3) | (go_at_call 42; refine (CD.out _ (HC.out _ hb5)).mono ?_; rintro e w' ⟨rfl, rfl⟩))
                      go_roundw
                      case rel => exact ⟨k + 1, T, M + 1, D, by omega, by go_num, by go_num, by go_num, rfl, by omega, by omega, hA2, hT2, hM2, hD2, below_step HBB.out hb5⟩
                      case measure => simp [intOf]; omega
                · have hT2 : Kept (Ptr.tops l (k + 1) = T) := ⟨by rw [HTs.out]; rw [if_neg (by omega), Nat.add_zero]⟩
                  have pe : (P == 0) = false := by simp; omega
                  have pl : ¬ P < 0 := by omega
                  cases x2 with
                  | false =>
                    have hM2 : Kept (Ptr.elems l (k + 1) = M) := ⟨by rw [HMs.out, if_neg (by rw [HX2.out]; simp), Nat.add_zero]⟩
                    have hD2 : Kept (decide (60 < Ptr.deepest l (k + 1)) = D) := ⟨by rw [HDs.out]; simp⟩
                    go_wp2_with (first | (go_at_call 41; refine (CF.out _ (HRD.out.below HBB.out)).mono ?_; rintro e w5 ⟨rfl, hb5⟩; obtain ⟨c0, _, _, c3⟩ := HN.out _ hb5; simp only [HKE.out, HPE.out] at c0 c3) | (go_at_call 42; refine (CD.out _ (HC.out _ hb5)).mono ?_; rintro e w' ⟨rfl, rfl⟩))
                    go_roundw
                    case rel => exact ⟨k + 1, T, M, D, by omega, by go_num, by go_num, by go_num, rfl, by omega, by omega, hA2, hT2, hM2, hD2, below_step HBB.out hb5⟩
                    case measure => simp [intOf]; omega
                  | true =>
                    by_cases hn : 60 < N
                    · have nl : (60 : Int) < (N : Int) := by omega
                      have hM2 : Kept (Ptr.elems l (k + 1) = M) := ⟨by rw [HMs.out, if_neg (by rw [HX2.out]; simp; omega), Nat.add_zero]⟩
                      have hD2 : Kept (decide (60 < Ptr.deepest l (k + 1)) = true) := ⟨by rw [HDs.out]; simp; omega⟩
                      go_wp2_with (first | (go_at_call 41; refine (CF.out _ (HRD.out.below HBB.out)).mono ?_; rintro e w5 ⟨rfl, hb5⟩; obtain ⟨c0, _, _, c3⟩ := HN.out _ hb5; simp only [HKE.out, HPE.out] at c0 c3) | (go_at_call 42; refine (CD.out _ (HC.out _ hb5)).mono ?_; rintro e w' ⟨rfl, rfl⟩))
                      go_roundw
                      case rel => exact ⟨k + 1, T, M, true, by omega, by go_num, by go_num, by go_num, rfl, by omega, by omega, hA2, hT2, hM2, hD2, below_step HBB.out hb5⟩
                      case measure => simp [intOf]; omega
                    · have nl : ¬ (60 : Int) < (N : Int) := by omega
                      have hM2 : Kept (Ptr.elems l (k + 1) = M) := ⟨by rw [HMs.out, if_neg (by rw [HX2.out]; simp; omega), Nat.add_zero]⟩
                      have hD2 : Kept (decide (60 < Ptr.deepest l (k + 1)) = D) := ⟨by rw [HDs.out]; simp; omega⟩
                      go_wp2_with (first | (go_at_call 41; refine (CF.out _ (HRD.out.below HBB.out)).mono ?_; rintro e w5 ⟨rfl, hb5⟩; obtain ⟨c0, _, _, c3⟩ := HN.out _ hb5; simp only [HKE.out, HPE.out] at c0 c3) | (go_at_call 42; refine (CD.out _ (HC.out _ hb5)).mono ?_; rintro e w' ⟨rfl, rfl⟩))
                      go_roundw
                      case rel => exact ⟨k + 1, T, M, D, by omega, by go_num, by go_num, by go_num, rfl, by omega, by omega, hA2, hT2, hM2, hD2, below_step HBB.out hb5⟩
                      case measure => simp [intOf]; omega
              | false =>
                have hX := BAD.out (by rw [HGR.out]; rfl)
                go_wp2_with (go_at_call 41; refine (CF.out _ (HRD.out.below HBB.out)).mono ?_; rintro e w5 ⟨rfl, hb5⟩; obtain ⟨c0, _, _, c3⟩ := HN.out _ hb5; simp only [HKE.out, HPE.out] at c0 c3)
                go_ret
                exact ⟨ret_i64 (by rw [hX.out]; rfl), below_step HBB.out hb5⟩
            | false =>
              cases x1 with
              | true =>
                have hX := BAD.out (by rw [HGR.out]; rfl)
                go_wp2_with (go_at_call 41; refine (CF.out _ (HRD.out.below HBB.out)).mono ?_; rintro e w5 ⟨rfl, hb5⟩; obtain ⟨c0, _, _, c3⟩ := HN.out _ hb5; simp only [HKE.out, HPE.out] at c0 c3)
                go_ret
                exact ⟨ret_i64 (by rw [hX.out]; rfl), below_step HBB.out hb5⟩
              | false =>
                have hA2 : Kept (Ptr.allB l true (k + 1) = true) := ⟨by rw [HAs.out, HGR.out]; rfl⟩
                rcases Int.lt_trichotomy P 0 with hp | hp | hp
                · have hT2 : Kept (Ptr.tops l (k + 1) = T + 1) := ⟨by rw [HTs.out]; rw [if_pos hp]⟩
                  have pe : (P == 0) = false := by simp; omega
                  cases x2 with
                  | false =>
                    have hM2 : Kept (Ptr.elems l (k + 1) = M) := ⟨by rw [HMs.out, if_neg (by rw [HX2.out]; simp), Nat.add_zero]⟩
                    have hD2 : Kept (decide (60 < Ptr.deepest l (k + 1)) = D) := ⟨by rw [HDs.out]; simp⟩
                    go_wp2_with (first | (go_at_call 41; refine (CF.out _ (HRD.out.below HBB.out)).mono ?_; rintro e w5 ⟨rfl, hb5⟩; obtain ⟨c0, _, _, c3⟩ := HN.out _ hb5; simp only [HKE.out, HPE.out] at c0 c3) | (go_at_call 42; refine (CD.out _ (HC.out _ hb5)).mono ?_; rintro e w' ⟨rfl, rfl⟩))
                    go_roundw
                    case rel => exact ⟨k + 1, T + 1, M, D, by omega, by go_num, by go_num, by go_num, rfl, by omega, by omega, hA2, hT2, hM2, hD2, below_step HBB.out hb5⟩
                    case measure => simp [intOf]; omega
                  | true =>
                    by_cases hn : 60 < N
                    · have nl : (60 : Int) < (N : Int) := by omega
                      have hM2 : Kept (Ptr.elems l (k + 1) = M) := ⟨by rw [HMs.out, if_neg (by rw [HX2.out]; simp; omega), Nat.add_zero]⟩
                      have hD2 : Kept (decide (60 < Ptr.deepest l (k + 1)) = true) := ⟨by rw [HDs.out]; simp; omega⟩
                      go_wp2_with (first | (go_at_call 41; refine (CF.out _ (HRD.out.below HBB.out)).mono ?_; rintro e w5 ⟨rfl, hb5⟩; obtain ⟨c0, _, _, c3⟩ := HN.out _ hb5; simp only [HKE.out, HPE.out] at c0 c3) | (go_at_call 42; refine (CD.out _ (HC.out _ hb5)).mono ?_; rintro e w' ⟨rfl, rfl⟩))
                      go_roundw
                      case rel => exact ⟨k + 1, T + 1, M, true, by omega, by go_num, by go_num, by go_num, rfl, by omega, by omega, hA2, hT2, hM2, hD2, below_step HBB.out hb5⟩
                      case measure => simp [intOf]; omega
                    · have nl : ¬ (60 : Int) < (N : Int) := by omega
                      have hM2 : Kept (Ptr.elems l (k + 1) = M) := ⟨by rw [HMs.out, if_neg (by rw [HX2.out]; simp; omega), Nat.add_zero]⟩
                      have hD2 : Kept (decide (60 < Ptr.deepest l (k + 1)) = D) := ⟨by rw [HDs.out]; simp; omega⟩
                      go_wp2_with (first | (go_at_call 41; refine (CF.out _ (HRD.out.below HBB.out)).mono ?_; rintro e w5 ⟨rfl, hb5⟩; obtain ⟨c0, _, _, c3⟩ := HN.out _ hb5; simp only [HKE.out, HPE.out] at c0 c3) | (go_at_call 42; refine (CD.out _ (HC.out _ hb5)).mono ?_; rintro e w' ⟨rfl, rfl⟩))
                      go_roundw
                      case rel => exact ⟨k + 1, T + 1, M, D, by omega, by go_num, by go_num, by go_num, rfl, by omega, by omega, hA2, hT2, hM2, hD2, below_step HBB.out hb5⟩
                      case measure => simp [intOf]; omega
                · subst hp
                  have hT2 : Kept (Ptr.tops l (k + 1) = T) := ⟨by rw [HTs.out]; rw [if_neg (by omega), Nat.add_zero]⟩
                  have pe : ((0 : Int) == 0) = true := rfl
                  cases x2 with
                  | false =>
                    have hM2 : Kept (Ptr.elems l (k + 1) = M) := ⟨by rw [HMs.out, if_neg (by rw [HX2.out]; simp), Nat.add_zero]⟩
                    have hD2 : Kept (decide (60 < Ptr.deepest l (k + 1)) = D) := ⟨by rw [HDs.out]; simp⟩
                    go_wp2_with (first | (go_at_call 41; refine (CF.out _ (HRD.out.below HBB.out)).mono ?_; rintro e w5 ⟨rfl, hb5⟩; obtain ⟨c0, _, _, c3⟩ := HN.out _ hb5; simp only [HKE.out, HPE.out] at c0 c3) | (go_at_call 42; refine (CD.out _ (HC.out _ hb5)).mono ?_; rintro e w' ⟨rfl, rfl⟩))
                    go_roundw
                    case rel => exact ⟨k + 1, T, M, D, by omega, by go_num, by go_num, by go_num, rfl, by omega, by omega, hA2, hT2, hM2, hD2, below_step HBB.out hb5⟩
                    case measure => simp [intOf]; omega
                  | true =>
                    by_cases hn : 60 < N
                    · have nl : (60 : Int) < (N : Int) := by omega
                      have hM2 : Kept (Ptr.elems l (k + 1) = M + 1) := ⟨by rw [HMs.out, if_pos (by rw [HX2.out]; simp)]⟩
                      have hD2 : Kept (decide (60 < Ptr.deepest l (k + 1)) = true) := ⟨by rw [HDs.out]; simp; omega⟩
                      go_wp2_with (first | (go_at_call 41; refine (CF.out _ (HRD.out.below HBB.out)).mono ?_; rintro e w5 ⟨rfl, hb5⟩; obtain ⟨c0, _, _, c3⟩ := HN.out _ hb5; simp only [HKE.out, HPE.out] at c0 c3) | (go_at_call 42; refine (CD.out _ (HC.out _ hb5)).mono ?_; rintro e w' ⟨rfl, rfl⟩))
                      go_roundw
                      case rel => exact ⟨k + 1, T, M + 1, true, by omega, by go_num, by go_num, by go_num, rfl, by omega, by omega, hA2, hT2, hM2, hD2, below_step HBB.out hb5⟩
                      case measure => simp [intOf]; omega
                    · have nl : ¬ (60 : Int) < (N : Int) := by omega
                      have hM2 : Kept (Ptr.elems l (k + 1) = M + 1) := ⟨by rw [HMs.out, if_pos (by rw [HX2.out]; simp)]⟩
                      have hD2 : Kept (decide (60 < Ptr.deepest l (k + 1)) = D) := ⟨by rw [HDs.out]; simp; omega⟩
                      go_wp2_with (first | (go_at_call 41; refine (CF.out _ (HRD.out.below HBB.out)).mono ?_; rintro e w5 ⟨rfl, hb5⟩; obtain ⟨c0, _, _, c3⟩ := HN.out _ hb5; simp only [HKE.out, HPE.out] at c0 c3) | (go_at_call 42; refine (CD.out _ (HC.out _ hb5)).mono ?_; rintro e w' ⟨rfl, rfl⟩))
                      go_roundw
                      case rel => exact ⟨k + 1, T, M + 1, D, by omega, by go_num, by go_num, by go_num, rfl, by omega, by omega, hA2, hT2, hM2, hD2, below_step HBB.out hb5⟩
                      case measure => simp [intOf]; omega
                · have hT2 : Kept (Ptr.tops l (k + 1) = T) := ⟨by rw [HTs.out]; rw [if_neg (by omega), Nat.add_zero]⟩
                  have pe : (P == 0) = false := by simp; omega
                  have pl : ¬ P < 0 := by omega
                  cases x2 with
                  | false =>
                    have hM2 : Kept (Ptr.elems l (k + 1) = M) := ⟨by rw [HMs.out, if_neg (by rw [HX2.out]; simp), Nat.add_zero]⟩
                    have hD2 : Kept (decide (60 < Ptr.deepest l (k + 1)) = D) := ⟨by rw [HDs.out]; simp⟩
                    go_wp2_with (first | (go_at_call 41; refine (CF.out _ (HRD.out.below HBB.out)).mono ?_; rintro e w5 ⟨rfl, hb5⟩; obtain ⟨c0, _, _, c3⟩ := HN.out _ hb5; simp only [HKE.out, HPE.out] at c0 c3) | (go_at_call 42; refine (CD.out _ (HC.out _ hb5)).mono ?_; rintro e w' ⟨rfl, rfl⟩))
                    go_roundw
                    case rel => exact ⟨k + 1, T, M, D, by omega, by go_num, by go_num, by go_num, rfl, by omega, by omega, hA2, hT2, hM2, hD2, below_step HBB.out hb5⟩
                    case measure => simp [intOf]; omega
                  | true =>
                    by_cases hn : 60 < N
                    · have nl : (60 : Int) < (N : Int) := by omega
                      have hM2 : Kept (Ptr.elems l (k + 1) = M) := ⟨by rw [HMs.out, if_neg (by rw [HX2.out]; simp; omega), Nat.add_zero]⟩
                      have hD2 : Kept (decide (60 < Ptr.deepest l (k + 1)) = true) := ⟨by rw [HDs.out]; simp; omega⟩
                      go_wp2_with (first | (go_at_call 41; refine (CF.out _ (HRD.out.below HBB.out)).mono ?_; rintro e w5 ⟨rfl, hb5⟩; obtain ⟨c0, _, _, c3⟩ := HN.out _ hb5; simp only [HKE.out, HPE.out] at c0 c3) | (go_at_call 42; refine (CD.out _ (HC.out _ hb5)).mono ?_; rintro e w' ⟨rfl, rfl⟩))
                      go_roundw
                      case rel => exact ⟨k + 1, T, M, true, by omega, by go_num, by go_num, by go_num, rfl, by omega, by omega, hA2, hT2, hM2, hD2, below_step HBB.out hb5⟩
                      case measure => simp [intOf]; omega
                    · have nl : ¬ (60 : Int) < (N : Int) := by omega
                      have hM2 : Kept (Ptr.elems l (k + 1) = M) := ⟨by rw [HMs.out, if_neg (by rw [HX2.out]; simp; omega), Nat.add_zero]⟩
                      have hD2 : Kept (decide (60 < Ptr.deepest l (k + 1)) = D) := ⟨by rw [HDs.out]; simp; omega⟩
                      go_wp2_with (first | (go_at_call 41; refine (CF.out _ (HRD.out.below HBB.out)).mono ?_; rintro e w5 ⟨rfl, hb5⟩; obtain ⟨c0, _, _, c3⟩ := HN.out _ hb5; simp only [HKE.out, HPE.out] at c0 c3) | (go_at_call 42; refine (CD.out _ (HC.out _ hb5)).mono ?_; rintro e w' ⟨rfl, rfl⟩))
                      go_roundw
                      case rel => exact ⟨k + 1, T, M, D, by omega, by go_num, by go_num, by go_num, rfl, by omega, by omega, hA2, hT2, hM2, hD2, below_step HBB.out hb5⟩
                      case measure => simp [intOf]; omega
          | false =>
            cases S with
            | true =>
              cases x1 with
              | true =>
                have hX := BAD.out (by rw [HGR.out]; rfl)
                go_wp2_with (go_at_call 41; refine (CF.out _ (HRD.out.below HBB.out)).mono ?_; rintro e w5 ⟨rfl, hb5⟩; obtain ⟨c0, _, _, c3⟩ := HN.out _ hb5; simp only [HKE.out, HPE.out] at c0 c3)
                go_ret
                exact ⟨ret_i64 (by rw [hX.out]; rfl), below_step HBB.out hb5⟩
              | false =>
                have hA2 : Kept (Ptr.allB l false (k + 1) = true) := ⟨by rw [HAs.out, HGR.out]; rfl⟩
                rcases Int.lt_trichotomy P 0 with hp | hp | hp
                · have hT2 : Kept (Ptr.tops l (k + 1) = T + 1) := ⟨by rw [HTs.out]; rw [if_pos hp]⟩
                  have pe : (P == 0) = false := by simp; omega
                  cases x2 with
                  | false =>
                    have hM2 : Kept (Ptr.elems l (k + 1) = M) := ⟨by rw [HMs.out, if_neg (by rw [HX2.out]; simp), Nat.add_zero]⟩
                    have hD2 : Kept (decide (60 < Ptr.deepest l (k + 1)) = D) := ⟨by rw [HDs.out]; simp⟩
                    go_wp2_with (first | (go_at_call 41; refine (CF.out _ (HRD.out.below HBB.out)).mono ?_; rintro e w5 ⟨rfl, hb5⟩; obtain ⟨c0, _, _, c3⟩ := HN.out _ hb5; simp only [HKE.out, HPE.out] at c0 c3) | (go_at_call 42; refine (CD.out _ (HC.out _ hb5)).mono ?_; rintro e w' ⟨rfl, rfl⟩))
                    go_roundw
                    case rel => exact ⟨k + 1, T + 1, M, D, by omega, by go_num, by go_num, by go_num, rfl, by omega, by omega, hA2, hT2, hM2, hD2, below_step HBB.out hb5⟩
                    case measure => simp [intOf]; omega
                  | true =>
                    by_cases hn : 60 < N
                    · have nl : (60 : Int) < (N : Int) := by omega
                      have hM2 : Kept (Ptr.elems l (k + 1) = M) := ⟨by rw [HMs.out, if_neg (by rw [HX2.out]; simp; omega), Nat.add_zero]⟩
                      have hD2 : Kept (decide (60 < Ptr.deepest l (k + 1)) = true) := ⟨by rw [HDs.out]; simp; omega⟩
                      go_wp2_with (first | (go_at_call 41; refine (CF.out _ (HRD.out.below HBB.out)).mono ?_; rintro e w5 ⟨rfl, hb5⟩; obtain ⟨c0, _, _, c3⟩ := HN.out _ hb5; simp only [HKE.out, HPE.out] at c0 c3) | (go_at_call 42; refine (CD.out _ (HC.out _ hb5)).mono ?_; rintro e w' ⟨rfl, rfl⟩))
                      go_roundw
                      case rel => exact ⟨k + 1, T + 1, M, true, by omega, by go_num, by go_num, by go_num, rfl, by omega, by omega, hA2, hT2, hM2, hD2, below_step HBB.out hb5⟩
                      case measure => simp [intOf]; omega
                    · have nl : ¬ (60 : Int) < (N : Int) := by omega
                      have hM2 : Kept (Ptr.elems l (k + 1) = M) := ⟨by rw [HMs.out, if_neg (by rw [HX2.out]; simp; omega), Nat.add_zero]⟩
                      have hD2 : Kept (decide (60 < Ptr.deepest l (k + 1)) = D) := ⟨by rw [HDs.out]; simp; omega⟩
                      go_wp2_with (first | (go_at_call 41; refine (CF.out _ (HRD.out.below HBB.out)).mono ?_; rintro e w5 ⟨rfl, hb5⟩; obtain ⟨c0, _, _, c3⟩ := HN.out _ hb5; simp only [HKE.out, HPE.out] at c0 c3) | (go_at_call 42; refine (CD.out _ (HC.out _ hb5)).mono ?_; rintro e w' ⟨rfl, rfl⟩))
                      go_roundw
                      case rel => exact ⟨k + 1, T + 1, M, D, by omega, by go_num, by go_num, by go_num, rfl, by omega, by omega, hA2, hT2, hM2, hD2, below_step HBB.out hb5⟩
                      case measure => simp [intOf]; omega
                · subst hp
                  have hT2 : Kept (Ptr.tops l (k + 1) = T) := ⟨by rw [HTs.out]; rw [if_neg (by omega), Nat.add_zero]⟩
                  have pe : ((0 : Int) == 0) = true := rfl
                  cases x2 with
                  | false =>
                    have hM2 : Kept (Ptr.elems l (k + 1) = M) := ⟨by rw [HMs.out, if_neg (by rw [HX2.out]; simp), Nat.add_zero]⟩
                    have hD2 : Kept (decide (60 < Ptr.deepest l (k + 1)) = D) := ⟨by rw [HDs.out]; simp⟩
                    go_wp2_with (first | (go_at_call 41; refine (CF.out _ (HRD.out.below HBB.out)).mono ?_; rintro e w5 ⟨rfl, hb5⟩; obtain ⟨c0, _, _, c3⟩ := HN.out _ hb5; simp only [HKE.out, HPE.out] at c0 c3) | (go_at_call 42; refine (CD.out _ (HC.out _ hb5)).mono ?_; rintro e w' ⟨rfl, rfl⟩))
                    go_roundw
                    case rel => exact ⟨k + 1, T, M, D, by omega, by go_num, by go_num, by go_num, rfl, by omega, by omega, hA2, hT2, hM2, hD2, below_step HBB.out hb5⟩
                    case measure => simp [intOf]; omega
                  | true =>
                    by_cases hn : 60 < N
                    · have nl : (60 : Int) < (N : Int) := by omega
                      have hM2 : Kept (Ptr.elems l (k + 1) = M + 1) := ⟨by rw [HMs.out, if_pos (by rw [HX2.out]; simp)]⟩
                      have hD2 : Kept (decide (60 < Ptr.deepest l (k + 1)) = true) := ⟨by rw [HDs.out]; simp; omega⟩
                      go_wp2_with (first | (go_at_call 41; refine (CF.out _ (HRD.out.below HBB.out)).mono ?_; rintro e w5 ⟨rfl, hb5⟩; obtain ⟨c0, _, _, c3⟩ := HN.out _ hb5; simp only [HKE.out, HPE.out] at c0 c3) | (go_at_call 42; refine (CD.out _ (HC.out _ hb5)).mono ?_; rintro e w' ⟨rfl, rfl⟩))
                      go_roundw
                      case rel => exact ⟨k + 1, T, M + 1, true, by omega, by go_num, by go_num, by go_num, rfl, by omega, by omega, hA2, hT2, hM2, hD2, below_step HBB.out hb5⟩
                      case measure => simp [intOf]; omega
                    · have nl : ¬ (60 : Int) < (N : Int) := by omega
                      have hM2 : Kept (Ptr.elems l (k + 1) = M + 1) := ⟨by rw [HMs.out, if_pos (by rw [HX2.out]; simp)]⟩
                      have hD2 : Kept (decide (60 < Ptr.deepest l (k + 1)) = D) := ⟨by rw [HDs.out]; simp; omega⟩
                      go_wp2_with (first | (go_at_call 41; refine (CF.out _ (HRD.out.below HBB.out)).mono ?_; rintro e w5 ⟨rfl, hb5⟩; obtain ⟨c0, _, _, c3⟩ := HN.out _ hb5; simp only [HKE.out, HPE.out] at c0 c3) | (go_at_call 42; refine (CD.out _ (HC.out _ hb5)).mono ?_; rintro e w' ⟨rfl, rfl⟩))
                      go_roundw
                      case rel => exact ⟨k + 1, T, M + 1, D, by omega, by go_num, by go_num, by go_num, rfl, by omega, by omega, hA2, hT2, hM2, hD2, below_step HBB.out hb5⟩
                      case measure => simp [intOf]; omega
                · have hT2 : Kept (Ptr.tops l (k + 1) = T) := ⟨by rw [HTs.out]; rw [if_neg (by omega), Nat.add_zero]⟩
                  have pe : (P == 0) = false := by simp; omega
                  have pl : ¬ P < 0 := by omega
                  cases x2 with
                  | false =>
                    have hM2 : Kept (Ptr.elems l (k + 1) = M) := ⟨by rw [HMs.out, if_neg (by rw [HX2.out]; simp), Nat.add_zero]⟩
                    have hD2 : Kept (decide (60 < Ptr.deepest l (k + 1)) = D) := ⟨by rw [HDs.out]; simp⟩
                    go_wp2_with (first | (go_at_call 41; refine (CF.out _ (HRD.out.below HBB.out)).mono ?_; rintro e w5 ⟨rfl, hb5⟩; obtain ⟨c0, _, _, c3⟩ := HN.out _ hb5; simp only [HKE.out, HPE.out] at c0 c3) | (go_at_call 42; refine (CD.out _ (HC.out _ hb5)).mono ?_; rintro e w' ⟨rfl, rfl⟩))
                    go_roundw
                    case rel => exact ⟨k + 1, T, M, D, by omega, by go_num, by go_num, by go_num, rfl, by omega, by omega, hA2, hT2, hM2, hD2, below_step HBB.out hb5⟩
                    case measure => simp [intOf]; omega
                  | true =>
                    by_cases hn : 60 < N
                    · have nl : (60 : Int) < (N : Int) := by omega
                      have hM2 : Kept (Ptr.elems l (k + 1) = M) := ⟨by rw [HMs.out, if_neg (by rw [HX2.out]; simp; omega), Nat.add_zero]⟩
                      have hD2 : Kept (decide (60 < Ptr.deepest l (k + 1)) = true) := ⟨by rw [HDs.out]; simp; omega⟩
                      go_wp2_with (first | (go_at_call 41; refine (CF.out _ (HRD.out.below HBB.out)).mono ?_; rintro e w5 ⟨rfl, hb5⟩; obtain ⟨c0, _, _, c3⟩ := HN.out _ hb5; simp only [HKE.out, HPE.out] at c0 c3) | (go_at_call 42; refine (CD.out _ (HC.out _ hb5)).mono ?_; rintro e w' ⟨rfl, rfl⟩))
                      go_roundw
                      case rel => exact ⟨k + 1, T, M, true, by omega, by go_num, by go_num, by go_num, rfl, by omega, by omega, hA2, hT2, hM2, hD2, below_step HBB.out hb5⟩
                      case measure => simp [intOf]; omega
                    · have nl : ¬ (60 : Int) < (N : Int) := by omega
                      have hM2 : Kept (Ptr.elems l (k + 1) = M) := ⟨by rw [HMs.out, if_neg (by rw [HX2.out]; simp; omega), Nat.add_zero]⟩
                      have hD2 : Kept (decide (60 < Ptr.deepest l (k + 1)) = D) := ⟨by rw [HDs.out]; simp; omega⟩
                      go_wp2_with (first | (go_at_call 41; refine (CF.out _ (HRD.out.below HBB.out)).mono ?_; rintro e w5 ⟨rfl, hb5⟩; obtain ⟨c0, _, _, c3⟩ := HN.out _ hb5; simp only [HKE.out, HPE.out] at c0 c3) | (go_at_call 42; refine (CD.out _ (HC.out _ hb5)).mono ?_; rintro e w' ⟨rfl, rfl⟩))
                      go_roundw
                      case rel => exact ⟨k + 1, T, M, D, by omega, by go_num, by go_num, by go_num, rfl, by omega, by omega, hA2, hT2, hM2, hD2, below_step HBB.out hb5⟩
                      case measure => simp [intOf]; omega
            | false =>
              cases x1 with
              | true =>
                have hX := BAD.out (by rw [HGR.out]; rfl)
                go_wp2_with (go_at_call 41; refine (CF.out _ (HRD.out.below HBB.out)).mono ?_; rintro e w5 ⟨rfl, hb5⟩; obtain ⟨c0, _, _, c3⟩ := HN.out _ hb5; simp only [HKE.out, HPE.out] at c0 c3)
                go_ret
                exact ⟨ret_i64 (by rw [hX.out]; rfl), below_step HBB.out hb5⟩
              | false =>
                have hA2 : Kept (Ptr.allB l false (k + 1) = true) := ⟨by rw [HAs.out, HGR.out]; rfl⟩
                rcases Int.lt_trichotomy P 0 with hp | hp | hp
                · have hT2 : Kept (Ptr.tops l (k + 1) = T + 1) := ⟨by rw [HTs.out]; rw [if_pos hp]⟩
                  have pe : (P == 0) = false := by simp; omega
                  cases x2 with
                  | false =>
                    have hM2 : Kept (Ptr.elems l (k + 1) = M) := ⟨by rw [HMs.out, if_neg (by rw [HX2.out]; simp), Nat.add_zero]⟩
                    have hD2 : Kept (decide (60 < Ptr.deepest l (k + 1)) = D) := ⟨by rw [HDs.out]; simp⟩
                    go_wp2_with (first | (go_at_call 41; refine (CF.out _ (HRD.out.below HBB.out)).mono ?_; rintro e w5 ⟨rfl, hb5⟩; obtain ⟨c0, _, _, c3⟩ := HN.out _ hb5; simp only [HKE.out, HPE.out] at c0 c3) | (go_at_call 42; refine (CD.out _ (HC.out _ hb5)).mono ?_; rintro e w' ⟨rfl, rfl⟩))
                    go_roundw
                    case rel => exact ⟨k + 1, T + 1, M, D, by omega, by go_num, by go_num, by go_num, rfl, by omega, by omega, hA2, hT2, hM2, hD2, below_step HBB.out hb5⟩
                    case measure => simp [intOf]; omega
                  | true =>
                    by_cases hn : 60 < N
                    · have nl : (60 : Int) < (N : Int) := by omega
                      have hM2 : Kept (Ptr.elems l (k + 1) = M) := ⟨by rw [HMs.out, if_neg (by rw [HX2.out]; simp; omega), Nat.add_zero]⟩
                      have hD2 : Kept (decide (60 < Ptr.deepest l (k + 1)) = true) := ⟨by rw [HDs.out]; simp; omega⟩
                      go_wp2_with (first | (go_at_call 41; refine (CF.out _ (HRD.out.below HBB.out)).mono ?_; rintro e w5 ⟨rfl, hb5⟩; obtain ⟨c0, _, _, c3⟩ := HN.out _ hb5; simp only [HKE.out, HPE.out] at c0 c3) | (go_at_call 42; refine (CD.out _ (HC.out _ hb5)).mono ?_; rintro e w' ⟨rfl, rfl⟩))
                      go_roundw
                      case rel => exact ⟨k + 1, T + 1, M, true, by omega, by go_num, by go_num, by go_num, rfl, by omega, by omega, hA2, hT2, hM2, hD2, below_step HBB.out hb5⟩
                      case measure => simp [intOf]; omega
                    · have nl : ¬ (60 : Int) < (N : Int) := by omega
                      have hM2 : Kept (Ptr.elems l (k + 1) = M) := ⟨by rw [HMs.out, if_neg (by rw [HX2.out]; simp; omega), Nat.add_zero]⟩
                      have hD2 : Kept (decide (60 < Ptr.deepest l (k + 1)) = D) := ⟨by rw [HDs.out]; simp; omega⟩
                      go_wp2_with (first | (go_at_call 41; refine (CF.out _ (HRD.out.below HBB.out)).mono ?_; rintro e w5 ⟨rfl, hb5⟩; obtain ⟨c0, _, _, c3⟩ := HN.out _ hb5; simp only [HKE.out, HPE.out] at c0 c3) | (go_at_call 42; refine (CD.out _ (HC.out _ hb5)).mono ?_; rintro e w' ⟨rfl, rfl⟩))
                      go_roundw
                      case rel => exact ⟨k + 1, T + 1, M, D, by omega, by go_num, by go_num, by go_num, rfl, by omega, by omega, hA2, hT2, hM2, hD2, below_step HBB.out hb5⟩
                      case measure => simp [intOf]; omega
                · subst hp
                  have hT2 : Kept (Ptr.tops l (k + 1) = T) := ⟨by rw [HTs.out]; rw [if_neg (by omega), Nat.add_zero]⟩
                  have pe : ((0 : Int) == 0) = true := rfl
                  cases x2 with
                  | false =>
                    have hM2 : Kept (Ptr.elems l (k + 1) = M) := ⟨by rw [HMs.out, if_neg (by rw [HX2.out]; simp), Nat.add_zero]⟩
                    have hD2 : Kept (decide (60 < Ptr.deepest l (k + 1)) = D) := ⟨by rw [HDs.out]; simp⟩
                    go_wp2_with (first | (go_at_call 41; refine (CF.out _ (HRD.out.below HBB.out)).mono ?_; rintro e w5 ⟨rfl, hb5⟩; obtain ⟨c0, _, _, c3⟩ := HN.out _ hb5; simp only [HKE.out, HPE.out] at c0 c3) | (go_at_call 42; refine (CD.out _ (HC.out _ hb5)).mono ?_; rintro e w' ⟨rfl, rfl⟩))
                    go_roundw
                    case rel => exact ⟨k + 1, T, M, D, by omega, by go_num, by go_num, by go_num, rfl, by omega, by omega, hA2, hT2, hM2, hD2, below_step HBB.out hb5⟩
                    case measure => simp [intOf]; omega
                  | true =>
                    by_cases hn : 60 < N
                    · have nl : (60 : Int) < (N : Int) := by omega
                      have hM2 : Kept (Ptr.elems l (k + 1) = M + 1) := ⟨by rw [HMs.out, if_pos (by rw [HX2.out]; simp)]⟩
                      have hD2 : Kept (decide (60 < Ptr.deepest l (k + 1)) = true) := ⟨by rw [HDs.out]; simp; omega⟩
                      go_wp2_with (first | (go_at_call 41; refine (CF.out _ (HRD.out.below HBB.out)).mono ?_; rintro e w5 ⟨rfl, hb5⟩; obtain ⟨c0, _, _, c3⟩ := HN.out _ hb5; simp only [HKE.out, HPE.out] at c0 c3) | (go_at_call 42; refine (CD.out _ (HC.out _ hb5)).mono ?_; rintro e w' ⟨rfl, rfl⟩))
                      go_roundw
                      case rel => exact ⟨k + 1, T, M + 1, true, by omega, by go_num, by go_num, by go_num, rfl, by omega, by omega, hA2, hT2, hM2, hD2, below_step HBB.out hb5⟩
                      case measure => simp [intOf]; omega
                    · have nl : ¬ (60 : Int) < (N : Int) := by omega
                      have hM2 : Kept (Ptr.elems l (k + 1) = M + 1) := ⟨by rw [HMs.out, if_pos (by rw [HX2.out]; simp)]⟩
                      have hD2 : Kept (decide (60 < Ptr.deepest l (k + 1)) = D) := ⟨by rw [HDs.out]; simp; omega⟩
                      go_wp2_with (first | (go_at_call 41; refine (CF.out _ (HRD.out.below HBB.out)).mono ?_; rintro e w5 ⟨rfl, hb5⟩; obtain ⟨c0, _, _, c3⟩ := HN.out _ hb5; simp only [HKE.out, HPE.out] at c0 c3) | (go_at_call 42; refine (CD.out _ (HC.out _ hb5)).mono ?_; rintro e w' ⟨rfl, rfl⟩))
                      go_roundw
                      case rel => exact ⟨k + 1, T, M + 1, D, by omega, by go_num, by go_num, by go_num, rfl, by omega, by omega, hA2, hT2, hM2, hD2, below_step HBB.out hb5⟩
                      case measure => simp [intOf]; omega
                · have hT2 : Kept (Ptr.tops l (k + 1) = T) := ⟨by rw [HTs.out]; rw [if_neg (by omega), Nat.add_zero]⟩
                  have pe : (P == 0) = false := by simp; omega
                  have pl : ¬ P < 0 := by omega
                  cases x2 with
                  | false =>
                    have hM2 : Kept (Ptr.elems l (k + 1) = M) := ⟨by rw [HMs.out, if_neg (by rw [HX2.out]; simp), Nat.add_zero]⟩
                    have hD2 : Kept (decide (60 < Ptr.deepest l (k + 1)) = D) := ⟨by rw [HDs.out]; simp⟩
                    go_wp2_with (first | (go_at_call 41; refine (CF.out _ (HRD.out.below HBB.out)).mono ?_; rintro e w5 ⟨rfl, hb5⟩; obtain ⟨c0, _, _, c3⟩ := HN.out _ hb5; simp only [HKE.out, HPE.out] at c0 c3) | (go_at_call 42; refine (CD.out _ (HC.out _ hb5)).mono ?_; rintro e w' ⟨rfl, rfl⟩))
                    go_roundw
                    case rel => exact ⟨k + 1, T, M, D, by omega, by go_num, by go_num, by go_num, rfl, by omega, by omega, hA2, hT2, hM2, hD2, below_step HBB.out hb5⟩
                    case measure => simp [intOf]; omega
                  | true =>
                    by_cases hn : 60 < N
                    · have nl : (60 : Int) < (N : Int) := by omega
                      have hM2 : Kept (Ptr.elems l (k + 1) = M) := ⟨by rw [HMs.out, if_neg (by rw [HX2.out]; simp; omega), Nat.add_zero]⟩
                      have hD2 : Kept (decide (60 < Ptr.deepest l (k + 1)) = true) := ⟨by rw [HDs.out]; simp; omega⟩
                      go_wp2_with (first | (go_at_call 41; refine (CF.out _ (HRD.out.below HBB.out)).mono ?_; rintro e w5 ⟨rfl, hb5⟩; obtain ⟨c0, _, _, c3⟩ := HN.out _ hb5; simp only [HKE.out, HPE.out] at c0 c3) | (go_at_call 42; refine (CD.out _ (HC.out _ hb5)).mono ?_; rintro e w' ⟨rfl, rfl⟩))
                      go_roundw
                      case rel => exact ⟨k + 1, T, M, true, by omega, by go_num, by go_num, by go_num, rfl, by omega, by omega, hA2, hT2, hM2, hD2, below_step HBB.out hb5⟩
                      case measure => simp [intOf]; omega
                    · have nl : ¬ (60 : Int) < (N : Int) := by omega
                      have hM2 : Kept (Ptr.elems l (k + 1) = M) := ⟨by rw [HMs.out, if_neg (by rw [HX2.out]; simp; omega), Nat.add_zero]⟩
                      have hD2 : Kept (decide (60 < Ptr.deepest l (k + 1)) = D) := ⟨by rw [HDs.out]; simp; omega⟩
                      go_wp2_with (first | (go_at_call 41; refine (CF.out _ (HRD.out.below HBB.out)).mono ?_; rintro e w5 ⟨rfl, hb5⟩; obtain ⟨c0, _, _, c3⟩ := HN.out _ hb5; simp only [HKE.out, HPE.out] at c0 c3) | (go_at_call 42; refine (CD.out _ (HC.out _ hb5)).mono ?_; rintro e w' ⟨rfl, rfl⟩))
                      go_roundw
                      case rel => exact ⟨k + 1, T, M, D, by omega, by go_num, by go_num, by go_num, rfl, by omega, by omega, hA2, hT2, hM2, hD2, below_step HBB.out hb5⟩
                      case measure => simp [intOf]; omega
      · obtain rfl : k = l.length := by omega
        have hX : Kept (Ptr.chk l root = bif (root && (!(T == 1) || !(M == 1))) then 4 else if D = true then 131 else 0) := ⟨by
          unfold Ptr.chk
          rw [if_neg HB.out, HA.out, HT.out, HM.out, if_neg (by simp), ← HD.out]
          have hT1 : T ≠ 1 ↔ (T == 1) = false := by simp
          have hM1 : M ≠ 1 ↔ (M == 1) = false := by simp
          simp only [decide_eq_true_eq, hT1, hM1]
          generalize (T == 1) = a
          generalize (M == 1) = b
          cases root <;> cases a <;> cases b <;> simp⟩
        have t1 : ((T : Int) != 1) = !(T == 1) := congrArg Bool.not (beq_cast T 1)
        have m1 : ((M : Int) != 1) = !(M == 1) := congrArg Bool.not (beq_cast M 1)
        generalize (T == 1) = y1 at t1 hX
        generalize (M == 1) = y2 at m1 hX
        clear hb
        cases root <;> cases y1 <;> cases y2 <;> cases D
        all_goals
          go_wp2
          go_ret
          exact ⟨ret_i64 (by rw [hX.out]; rfl), HBB.out⟩
end Go.Proofs.YtkjodleggfacbaaDoor.Wtr
