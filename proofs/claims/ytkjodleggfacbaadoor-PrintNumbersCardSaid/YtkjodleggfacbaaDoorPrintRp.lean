/- The walks over the document's Print and Node (chapter 08). -/
import Derived.Test.YtkjodleggfacbaaDoorPrintRw
import Derived.Test.YtkjodleggfacbaaDoorPrintPr
namespace Go.Proofs.YtkjodleggfacbaaDoor.Wpr
open Go Go.RowKit Go.Proofs.YtkjodleggfacbaaDoor.Kb Go.Proofs.YtkjodleggfacbaaDoor.Emk Go.Proofs.YtkjodleggfacbaaDoor.Wtr

theorem ref_all (A : Option Addr) (l : List Ptr.Nd) (c : Nat) (root : Bool) (hA : Ptr.allB l root l.length = true) (hl : l.length ≤ 100000) (hz : Ppr.wt l 0 l.length ≤ 1000000000) : ∀ n i, l.length - i ≤ n → i < l.length → RefOk A l c i := by
  intro n
  induction n with
  | zero => intro i h hi; omega
  | succ n ih =>
    intro i h hi
    have hN : ∀ j, i < j → j < l.length → RefOk A l c j := fun j h1 h2 => ih j (by omega) h2
    rcases Ppr.kin_cases hA hi with hk | hk | hk | hk | hk | hk
    · exact ref_root A l c i root hA hi hz hk hl hN
    · exact ref_elem A l c i root hA hi hz hk hl hN
    · exact ref_attr A l c i root hA hi hz hk
    · exact ref_text A l c i root hA hi hz hk
    · exact ref_comment A l c i root hA hi hz hk
    · exact ref_instr A l c i root hA hi hz hk
theorem ret_two {D : ByteArray} {L : List UInt8} {n : Int} (h : D.data.toList = L) : Ending.returned (.tuple #[.string D, .int .i64 n]) = .returned (.tuple #[.string ⟨L.toArray⟩, .int .i64 n]) := by
  have e : D = ⟨L.toArray⟩ := by
    apply ByteArray.ext
    apply Array.ext'
    exact h
  rw [e]
set_option maxRecDepth 100000 in
set_option maxHeartbeats 2000000 in
theorem refPrint_any (A : Option Addr) (l : List Ptr.Nd) (c : Nat) (w : World) (hr : RdN w A l) (hl : l.length ≤ 100000) (hf : FitL l) (hz : Ppr.wt l 0 l.length ≤ 1000000000) :
    Calls Tryd.prog 12 #[.slice A l.length c] w fun e w' => e = .returned (.tuple #[.string ⟨(Ppr.prR l).1.toArray⟩, .int .i64 (Ppr.prR l).2]) ∧ Below w.heap.size w w' := by
  have CC := Kept.mk (refcheck_any A l c w hr hl hf)
  have HR := Kept.mk hr
  clear hr hf
  by_cases h0 : Ptr.chk l true = 0
  · have hp : Ppr.prR l = (Ppr.prN l 0, 0) := if_pos h0
    rw [hp]
    rw [h0] at CC
    have hA := Ppr.chk_all h0
    have hpos := Ppr.chk_pos h0
    have CN := Kept.mk (fun w0 (hr : RdN w0 A l) => ref_all A l c true hA hl hz l.length 0 (by omega) hpos w0 hr)
    clear hp h0
    go_enter Tryd.func12, Tryd.ntmps12
    go_wp2_with (fail)
    refine CC.out.mono ?_; rintro e w1 ⟨rfl, hb1⟩
    have H1 := Kept.mk hb1
    have C1 := Kept.mk (CN.out w1 (HR.out.below hb1))
    clear CN CC hb1
    go_wp2_with (fail)
    refine C1.out.mono ?_; rintro e w2 ⟨D, rfl, hD, hb2⟩
    have H2 := Kept.mk (H1.out.trans (hb2.mono H1.out.size))
    have HD := Kept.mk hD
    clear C1 hb2 hD
    go_wp2
    go_ret2
    exact ⟨ret_two HD.out, H2.out⟩
  · have hp : Ppr.prR l = ([], 4) := if_neg h0
    rw [hp]
    have hn : ((Ptr.chk l true : Nat) : Int) ≠ 0 := by omega
    have hn2 : (((Ptr.chk l true : Nat) : Int) != 0) = true := by simp; omega
    clear hp
    go_enter Tryd.func12, Tryd.ntmps12
    go_wp2_with (fail)
    refine CC.out.mono ?_; rintro e w1 ⟨rfl, hb1⟩
    go_wp2
    go_ret2
    exact ⟨rfl, hb1⟩
set_option maxRecDepth 100000 in
set_option maxHeartbeats 2000000 in
theorem refNode_any (A : Option Addr) (l : List Ptr.Nd) (c : Nat) (a : Int) (w : World) (hr : RdN w A l) (hl : l.length ≤ 100000) (hf : FitL l) (hz : Ppr.wt l 0 l.length ≤ 1000000000) :
    Calls Tryd.prog 13 #[.slice A l.length c, .int .i64 a] w fun e w' => e = .returned (.tuple #[.string ⟨(Ppr.ndR l a).1.toArray⟩, .int .i64 (Ppr.ndR l a).2]) ∧ Below w.heap.size w w' := by
  have CC := Kept.mk (refcheck_any A l c w hr hl hf)
  have CF := Kept.mk (fun w1 (hb : Below w.heap.size w w1) => reffragment_any A l c w1 (hr.below hb) hl hf)
  have HR := Kept.mk hr
  clear hr hf
  -- what is done with a right row, behind the checks
  have fin : ∀ (root : Bool), Ptr.allB l root l.length = true → ¬ (a < 0 ∨ (l.length : Int) ≤ a) → Kept (∀ w0, RdN w0 A l → Calls Tryd.prog 25 #[.slice A l.length c, .int .i64 a] w0 fun e w' => ∃ D : ByteArray, e = .returned (.string D) ∧ D.data.toList = Ppr.prN l a.toNat ∧ Below w0.heap.size w0 w') := fun root hA ha => ⟨fun w0 hr0 => by
    obtain ⟨m, rfl⟩ : ∃ m : Nat, a = m := ⟨a.toNat, by omega⟩
    exact ref_all A l c root hA hl hz l.length m (by omega) (by omega) w0 hr0⟩
  obtain ⟨R, hR⟩ : ∃ R, Ppr.ndR l a = R := ⟨_, rfl⟩
  rw [hR]
  unfold Ppr.ndR at hR
  have hbt : ∀ b, (((Ptr.chk l b : Nat) : Int) != 0) = !decide (Ptr.chk l b = 0) := fun b => by
    by_cases h : Ptr.chk l b = 0
    · simp [h]
    · have : ((Ptr.chk l b : Nat) : Int) ≠ 0 := by omega
      simp [h]
  by_cases h1 : Ptr.chk l true = 0
  · rw [if_neg (by simp [h1])] at hR
    rw [h1] at CC
    clear CF
    by_cases ha : a < 0 ∨ (l.length : Int) ≤ a
    · rw [if_pos ha] at hR
      subst hR
      clear fin
      rcases Classical.em (a < 0) with ha0 | ha0
      · go_enter Tryd.func13, Tryd.ntmps13
        go_wp2_with (fail)
        refine CC.out.mono ?_; rintro e w1 ⟨rfl, hb1⟩
        go_wp2
        go_ret2
        exact ⟨rfl, hb1⟩
      · have ha1 : (l.length : Int) ≤ a := by omega
        go_enter Tryd.func13, Tryd.ntmps13
        go_wp2_with (fail)
        refine CC.out.mono ?_; rintro e w1 ⟨rfl, hb1⟩
        go_wp2
        go_ret2
        exact ⟨rfl, hb1⟩
    · rw [if_neg ha] at hR
      subst hR
      have CN := fin true (Ppr.chk_all h1) ha
      have ha0 : ¬ a < 0 := by omega
      have ha1 : ¬ (l.length : Int) ≤ a := by omega
      clear fin
      go_enter Tryd.func13, Tryd.ntmps13
      go_wp2_with (fail)
      refine CC.out.mono ?_; rintro e w1 ⟨rfl, hb1⟩
      have H1 := Kept.mk hb1
      have C1 := Kept.mk (CN.out w1 (HR.out.below hb1))
      clear CN CC hb1
      go_wp2_with (fail)
      refine C1.out.mono ?_; rintro e w2 ⟨D, rfl, hD, hb2⟩
      have H2 := Kept.mk (H1.out.trans (hb2.mono H1.out.size))
      have HD := Kept.mk hD
      clear C1 hb2 hD
      go_wp2
      go_ret2
      exact ⟨ret_two HD.out, H2.out⟩
  · by_cases h2 : Ptr.chk l false = 0
    · rw [if_neg (by simp [h2])] at hR
      have CF : Kept (∀ w1, Below w.heap.size w w1 → Calls Tryd.prog 26 #[.slice A l.length c] w1 fun e w' => e = .returned (.int .i64 0) ∧ Below w1.heap.size w1 w') := ⟨fun w1 hb => by have h := CF.out w1 hb; rw [h2] at h; exact h⟩
      have hn := hbt true
      rw [decide_eq_false h1] at hn
      simp only [Bool.not_false] at hn
      have hnn : ¬ ((Ptr.chk l true : Nat) : Int) = 0 := by omega
      by_cases ha : a < 0 ∨ (l.length : Int) ≤ a
      · rw [if_pos ha] at hR
        subst hR
        clear fin
        rcases Classical.em (a < 0) with ha0 | ha0
        · go_enter Tryd.func13, Tryd.ntmps13
          go_wp2_with (fail)
          refine CC.out.mono ?_; rintro e w1 ⟨rfl, hb1⟩
          go_wp2_with (fail)
          refine (CF.out w1 hb1).mono ?_; rintro e w2 ⟨rfl, hb2⟩
          have H2 := Kept.mk (hb1.trans (hb2.mono hb1.size))
          go_wp2
          go_ret2
          exact ⟨rfl, H2.out⟩
        · have ha1 : (l.length : Int) ≤ a := by omega
          go_enter Tryd.func13, Tryd.ntmps13
          go_wp2_with (fail)
          refine CC.out.mono ?_; rintro e w1 ⟨rfl, hb1⟩
          go_wp2_with (fail)
          refine (CF.out w1 hb1).mono ?_; rintro e w2 ⟨rfl, hb2⟩
          have H2 := Kept.mk (hb1.trans (hb2.mono hb1.size))
          go_wp2
          go_ret2
          exact ⟨rfl, H2.out⟩
      · rw [if_neg ha] at hR
        subst hR
        have CN := fin false (Ppr.chk_all h2) ha
        have ha0 : ¬ a < 0 := by omega
        have ha1 : ¬ (l.length : Int) ≤ a := by omega
        clear fin
        go_enter Tryd.func13, Tryd.ntmps13
        go_wp2_with (fail)
        refine CC.out.mono ?_; rintro e w0 ⟨rfl, hb0⟩
        go_wp2_with (fail)
        refine (CF.out w0 hb0).mono ?_; rintro e w1 ⟨rfl, hb9⟩
        have hb1 := hb0.trans (hb9.mono hb0.size)
        have H1 := Kept.mk hb1
        have C1 := Kept.mk (CN.out w1 (HR.out.below hb1))
        clear CN CC hb1
        go_wp2_with (fail)
        refine C1.out.mono ?_; rintro e w2 ⟨D, rfl, hD, hb2⟩
        have H2 := Kept.mk (H1.out.trans (hb2.mono H1.out.size))
        have HD := Kept.mk hD
        clear C1 hb2 hD
        go_wp2
        go_ret2
        exact ⟨ret_two HD.out, H2.out⟩
    · rw [if_pos ⟨h1, h2⟩] at hR
      subst hR
      have hn := hbt true
      rw [decide_eq_false h1] at hn
      have hn2 := hbt false
      rw [decide_eq_false h2] at hn2
      simp only [Bool.not_false] at hn hn2
      have hnn : ¬ ((Ptr.chk l true : Nat) : Int) = 0 := by omega
      have hnn2 : ¬ ((Ptr.chk l false : Nat) : Int) = 0 := by omega
      clear fin
      go_enter Tryd.func13, Tryd.ntmps13
      go_wp2_with (fail)
      refine CC.out.mono ?_; rintro e w1 ⟨rfl, hb1⟩
      go_wp2_with (fail)
      refine (CF.out w1 hb1).mono ?_; rintro e w2 ⟨rfl, hb2⟩
      have H2 := Kept.mk (hb1.trans (hb2.mono hb1.size))
      go_wp2
      go_ret2
      exact ⟨rfl, H2.out⟩
end Go.Proofs.YtkjodleggfacbaaDoor.Wpr
