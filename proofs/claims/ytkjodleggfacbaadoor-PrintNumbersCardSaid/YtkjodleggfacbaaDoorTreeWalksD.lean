/- The walks over the document's attribute and xml (chapter 06). -/
import Derived.Test.YtkjodleggfacbaaDoorTreeWalksC
import Derived.Test.YtkjodleggfacbaaDoorCharsWalksF
import Derived.Test.YtkjodleggfacbaaDoorCharsWalksD
namespace Go.Proofs.YtkjodleggfacbaaDoor.Wtr
open Go Go.RowKit Go.Proofs.YtkjodleggfacbaaDoor.Kb

theorem name_call (x : List UInt8) (w : World) (hx : x.length ≤ 4611686018427387904) : Calls Tryd.prog 53 #[.string ⟨x.toArray⟩] w fun e w' => e = .returned (.bool (Pch.nameL x)) ∧ w = w' := by
  have h := Wch.refNametext_any ⟨x.toArray⟩ w (by show x.toArray.size ≤ _; simpa using hx)
  simpa using h
theorem texts_call (x : List UInt8) (w : World) (hx : x.length ≤ 4611686018427387904) : Calls Tryd.prog 52 #[.string ⟨x.toArray⟩] w fun e w' => e = .returned (.bool (Pch.textsL x)) ∧ w = w' := by
  have h := Wch.refTexts_any ⟨x.toArray⟩ w (by show x.toArray.size ≤ _; simpa using hx)
  simpa using h
/-- attributes ahead, from a place on -/
def attrsFrom (l : List Ptr.Nd) (q : Int) (x : List UInt8) (i k : Nat) : Bool := (List.range' k (i - k)).all fun j => decide (Ptr.par l j = q) && Ptr.kin l j == 3 && !decide (Ptr.nam l j = x)
theorem attrsFrom_step (l : List Ptr.Nd) (q : Int) (x : List UInt8) (i k : Nat) (h : k < i) : attrsFrom l q x i k = ((decide (Ptr.par l k = q) && Ptr.kin l k == 3 && !decide (Ptr.nam l k = x)) && attrsFrom l q x i (k + 1)) := by
  unfold attrsFrom
  rw [show i - k = (i - (k + 1)) + 1 by omega, List.range'_succ, List.all_cons]
theorem attrsFrom_end (l : List Ptr.Nd) (q : Int) (x : List UInt8) (i k : Nat) (h : ¬ k < i) : attrsFrom l q x i k = true := by
  unfold attrsFrom
  rw [show i - k = 0 by omega]
  rfl
theorem attrsFrom_eq (l : List Ptr.Nd) (q : Int) (x : List UInt8) (i a : Nat) : attrsFrom l q x i a = Ptr.attrsB l q x a i := by
  rw [Bool.eq_iff_iff, Ptr.attrsB_iff]
  unfold attrsFrom
  rw [List.all_eq_true]
  simp only [List.mem_range'_1, Bool.and_eq_true, decide_eq_true_eq, beq_iff_eq, Bool.not_eq_true', decide_eq_false_iff_not]
  constructor
  · intro h k hk hki
    have := h k (by omega)
    exact ⟨this.1.1, this.1.2, this.2⟩
  · intro h k hk
    have := h k (by omega) (by omega)
    exact ⟨⟨this.1, this.2.1⟩, this.2.2⟩
def refAttrB (l : List Ptr.Nd) (i : Nat) : Bool := decide (upK l (Ptr.par l i) = 2) && Pch.nameL (Ptr.nam l i) && Ptr.attrsB l (Ptr.par l i) (Ptr.nam l i) ((Ptr.par l i).toNat + 1) i
set_option maxRecDepth 100000 in
set_option maxHeartbeats 2000000 in
theorem refAttribute_any (A : Option Addr) (l : List Ptr.Nd) (c i : Nat) (w : World) (hr : RdN w A l) (hi : i < l.length) (hP : -1 ≤ Ptr.par l i ∧ Ptr.par l i < i) (hl : l.length ≤ 100000) (hn : (Ptr.nam l i).length ≤ 4611686018427387904) :
    Calls Tryd.prog 54 #[.slice A l.length c, .int .i64 i] w fun e w' => e = .returned (.bool (refAttrB l i)) ∧ Below w.heap.size w w' := by
  obtain ⟨b, off, rfl, _, q1, _, q3⟩ := hr.at_ hi
  have HRD := Kept.mk hr
  have cP := refParent_any (some ⟨b, off, none⟩) l c i w hr hi (by omega)
  have cN := name_call (Ptr.nam l i) w hn
  simp only at q1 q3
  generalize hT : refAttrB l i = T
  unfold refAttrB at hT
  generalize Ptr.par l i = Q at q3 hP cP hT
  generalize hU : upK l Q = U at cP hT
  have HCP := Kept.mk cP
  have i0 : (0 : Int) ≤ (i : Int) := by omega
  have i1 : (i : Int) < (l.length : Int) := by omega
  obtain ⟨X, hX⟩ : ∃ X : ByteArray, X = ⟨(Ptr.nam l i).toArray⟩ := ⟨_, rfl⟩
  have hXl : X.toList = Ptr.nam l i := by rw [hX, ByteArray.toList_eq]
  rw [← hX] at q1 cN
  have HXL := Kept.mk hXl
  clear cP hr hX hXl
  by_cases e2 : U = 2
  · subst e2
    have hq : 0 ≤ Q := by
      apply Classical.byContradiction
      intro h
      unfold upK at hU
      rw [if_pos (by omega)] at hU
      cases hU
    obtain ⟨q, rfl⟩ : ∃ q : Nat, Q = q := ⟨Q.toNat, by omega⟩
    rw [decide_eq_true rfl, Bool.true_and, Int.toNat_natCast] at hT
    generalize Pch.nameL (Ptr.nam l i) = N at cN hT
    have HCN := Kept.mk cN
    clear cN hU hq
    cases N with
    | false =>
      have hX : Kept (T = false) := ⟨hT.symm⟩
      clear hT
      go_enter Tryd.func54, Tryd.ntmps54
      go_wp2_with (first | (go_at_call 51; refine HCP.out.mono ?_; rintro e w' ⟨rfl, rfl⟩) | (go_at_call 53; refine HCN.out.mono ?_; rintro e w' ⟨rfl, rfl⟩))
      go_ret
      exact ⟨ret_bool hX.out.symm, Below.refl _ _⟩
    | true =>
      rw [Bool.true_and, ← attrsFrom_eq] at hT
      have HT := Kept.mk hT
      have HQ1 := Kept.mk q1
      have HQ3 := Kept.mk q3
      have j0 : (0 : Int) ≤ (q : Int) := by omega
      have j9 : (q : Int) < i := by omega
      clear hT
      go_enter Tryd.func54, Tryd.ntmps54
      go_wp2_with (first | (go_at_call 51; refine HCP.out.mono ?_; rintro e w' ⟨rfl, rfl⟩) | (go_at_call 53; refine HCN.out.mono ?_; rintro e w' ⟨rfl, rfl⟩))
      clear q1 q3
      go_loopw [6] (fun k wx => ∃ m : Nat, m ≤ i ∧ k = .int .i64 m ∧ Below w.heap.size w wx ∧ Hid (attrsFrom l q (Ptr.nam l i) i m = T)) (fun k _ => i - (intOf k).toNat)
      case atStart => exact ⟨q + 1, by omega, by go_num, Below.refl _ _, HT.out⟩
      case round =>
        obtain ⟨m, hm, rfl, hb, H⟩ := hrel
        have HB := Kept.mk hb
        have k0 : (0 : Int) ≤ (m : Int) := by omega
        have h := H.out
        by_cases hlt : m < i
        · rw [attrsFrom_step _ _ _ _ _ hlt] at h
          have k1 : (m : Int) < (l.length : Int) := by omega
          obtain ⟨c0, c1, _, c3⟩ := (HRD.out.below hb).cells (i := m) (by omega)
          have q1 := cell_keep hb HQ1.out
          simp only at c0 c1 c3
          obtain ⟨Y, hY⟩ : ∃ Y : ByteArray, Y = ⟨(Ptr.nam l m).toArray⟩ := ⟨_, rfl⟩
          have hYl : Y.toList = Ptr.nam l m := by rw [hY, ByteArray.toList_eq]
          rw [← hY] at c1
          rw [← hYl, ← HXL.out] at h
          generalize Ptr.par l m = P at c3 h
          generalize Ptr.kin l m = K at c0 h
          clear hb H hY hYl
          by_cases e1 : P = (q : Int)
          · have f1 : (P != (q : Int)) = false := by simpa using e1
            by_cases e3 : K = 3
            · subst e3
              by_cases e4 : Y.toList = X.toList
              · have hX : Kept (T = false) := ⟨by rw [← h, decide_eq_true e1, decide_eq_true e4]; rfl⟩
                have f4 : (Y.toList == X.toList) = true := by rw [e4, beq_self_eq_true]
                clear h e1 e4
                go_wp2
                go_quiet (fail)
                go_wp2
                go_ret
                exact ⟨ret_bool hX.out.symm, below_drewN HB.out _⟩
              · rw [decide_eq_true e1, decide_eq_false e4] at h
                have H1 : Hid (attrsFrom l q (Ptr.nam l i) i (m + 1) = T) := by rw [← HXL.out]; exact h
                have f4 : (Y.toList == X.toList) = false := by simpa using e4
                clear h e1 e4
                go_wp2
                go_quiet (fail)
                go_wp2
                go_roundw
                case rel => exact ⟨m + 1, by omega, by go_num, below_drewN HB.out _, H1.out⟩
                case measure => simp [intOf]; omega
            · have hX : Kept (T = false) := ⟨by rw [← h, beq_eq_false_iff_ne.2 e3, Bool.and_false]; rfl⟩
              have f3 : ((K : Int) != 3) = true := by simp; omega
              clear h e1 e3
              go_wp2
              go_quiet (fail)
              go_wp2
              go_ret
              exact ⟨ret_bool hX.out.symm, below_drewN HB.out _⟩
          · have hX : Kept (T = false) := ⟨by rw [← h, decide_eq_false e1]; rfl⟩
            have f1 : (P != (q : Int)) = true := by simpa using e1
            clear h e1
            go_wp2
            go_quiet (fail)
            go_wp2
            go_ret
            exact ⟨ret_bool hX.out.symm, below_drewN HB.out _⟩
        · rw [attrsFrom_end _ _ _ _ _ hlt] at h
          have hX : Kept (T = true) := ⟨h.symm⟩
          clear h H hb
          go_wp2
          go_ret
          exact ⟨ret_bool hX.out.symm, HB.out⟩
  · have hX : Kept (T = false) := ⟨by rw [← hT, decide_eq_false e2]; rfl⟩
    have f2 : ((U : Int) != 2) = true := by simp; omega
    clear hT hU e2 cN
    go_enter Tryd.func54, Tryd.ntmps54
    go_wp2_with (go_at_call 51; refine HCP.out.mono ?_; rintro e w' ⟨rfl, rfl⟩)
    go_ret
    exact ⟨ret_bool hX.out.symm, Below.refl _ _⟩
theorem b_eq (c : UInt8) (n : Nat) (hn : n < 256) : ((c.toNat : Int) == (n : Int)) = (c == UInt8.ofNat n) := by
  rw [Bool.eq_iff_iff, beq_iff_eq, beq_iff_eq]
  constructor
  · intro h
    apply UInt8.toNat_inj.1
    rw [UInt8.toNat_ofNat', Nat.mod_eq_of_lt (by omega)]
    omega
  · intro h
    rw [h, UInt8.toNat_ofNat', Nat.mod_eq_of_lt (by omega)]
set_option maxRecDepth 100000 in
set_option maxHeartbeats 4000000 in
theorem refXml_any (s : ByteArray) (w : World) :
    Calls Tryd.prog 57 #[.string s] w fun e w' => e = .returned (.bool (Ptr.isXml s.data.toList)) ∧ w = w' := by
  have hl : s.data.toList.length = s.size := by rw [Array.length_toList]; rfl
  by_cases h3 : s.size = 3
  · have hs : s.data.toList = [s[0], s[1], s[2]] := by
      have e0 : s.data.toList = s[0] :: s.data.toList.drop 1 := List.drop_eq_getElem_cons (l := s.data.toList) (i := 0) (by omega)
      have e1 : s.data.toList.drop 1 = s[1] :: s.data.toList.drop 2 := List.drop_eq_getElem_cons (l := s.data.toList) (i := 1) (by omega)
      have e2 : s.data.toList.drop 2 = s[2] :: s.data.toList.drop 3 := List.drop_eq_getElem_cons (l := s.data.toList) (i := 2) (by omega)
      rw [e0, e1, e2, List.drop_eq_nil_of_le (by omega)]
    have hT : Ptr.isXml s.data.toList = (((s[0] == 120) || (s[0] == 88)) && ((s[1] == 109) || (s[1] == 77)) && ((s[2] == 108) || (s[2] == 76))) := by rw [hs]; rfl
    rw [hT]
    have f0 := b_eq s[0] 120 (by decide)
    have f1 := b_eq s[0] 88 (by decide)
    have f2 := b_eq s[1] 109 (by decide)
    have f3 := b_eq s[1] 77 (by decide)
    have f4 := b_eq s[2] 108 (by decide)
    have f5 := b_eq s[2] 76 (by decide)
    change ((s[0].toNat : Int) == 120) = (s[0] == 120) at f0
    change ((s[0].toNat : Int) == 88) = (s[0] == 88) at f1
    change ((s[1].toNat : Int) == 109) = (s[1] == 109) at f2
    change ((s[1].toNat : Int) == 77) = (s[1] == 77) at f3
    change ((s[2].toNat : Int) == 108) = (s[2] == 108) at f4
    change ((s[2].toNat : Int) == 76) = (s[2] == 76) at f5
    have z : ((s.size : Int) == 3) = true := by rw [beq_iff_eq]; omega
    have z0 : (0 : Int) < (s.size : Int) := by omega
    have z1 : (1 : Int) < (s.size : Int) := by omega
    have z2 : (2 : Int) < (s.size : Int) := by omega
    have y0 : 0 < s.size := by omega
    have y1 : 1 < s.size := by omega
    have y2 : 2 < s.size := by omega
    generalize (s[0] == 120) = B0 at f0 ⊢
    generalize (s[0] == 88) = B1 at f1 ⊢
    generalize (s[1] == 109) = B2 at f2 ⊢
    generalize (s[1] == 77) = B3 at f3 ⊢
    generalize (s[2] == 108) = B4 at f4 ⊢
    generalize (s[2] == 76) = B5 at f5 ⊢
    clear hT hs hl
    cases B0 <;> cases B1
    · go_enter Tryd.func57, Tryd.ntmps57
      go_wp2
      go_ret
      exact ⟨rfl, rfl⟩
    all_goals
      cases B2 <;> cases B3
      · go_enter Tryd.func57, Tryd.ntmps57
        go_wp2
        go_ret
        exact ⟨rfl, rfl⟩
      all_goals
        cases B4 <;> cases B5
        all_goals
          go_enter Tryd.func57, Tryd.ntmps57
          go_wp2
          go_ret
          exact ⟨rfl, rfl⟩
  · have hT : Ptr.isXml s.data.toList = false := by
      match h : s.data.toList with
      | [] => rfl
      | [_] => rfl
      | [_, _] => rfl
      | [_, _, _] => rw [h] at hl; simp at hl; omega
      | _ :: _ :: _ :: _ :: _ => rfl
    rw [hT]
    have z : ((s.size : Int) == 3) = false := by simp; omega
    clear hT hl h3
    go_enter Tryd.func57, Tryd.ntmps57
    go_wp2
    go_ret
    exact ⟨rfl, rfl⟩
end Go.Proofs.YtkjodleggfacbaaDoor.Wtr
