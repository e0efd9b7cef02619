/- The walks over print's Print and Node (chapter 08). -/
import Derived.Test.YtkjodleggfacbaaDoorPrintNd
import Derived.Test.YtkjodleggfacbaaDoorTreeChk
namespace Go.Proofs.YtkjodleggfacbaaDoor.Ppr
open Go Go.Proofs.YtkjodleggfacbaaDoor.Ptr

/-- what is printed of a tree -/
def prR (l : List Nd) : List UInt8 × Int := if chk l true = 0 then (prN l 0, 0) else ([], 4)
/-- what is printed of a node -/
def ndR (l : List Nd) (a : Int) : List UInt8 × Int := if ¬ chk l true = 0 ∧ ¬ chk l false = 0 then ([], 4) else if a < 0 ∨ (l.length : Int) ≤ a then ([], 2) else (prN l a.toNat, 0)
theorem chk_all {l : List Nd} {root : Bool} (h : chk l root = 0) : allB l root l.length = true := by
  unfold chk at h
  split at h
  · cases h
  · split at h
    · cases h
    · rename_i h2
      simpa using h2
theorem chk_pos {l : List Nd} (h : chk l true = 0) : 0 < l.length := by
  apply Classical.byContradiction
  intro hn
  have h0 : l = [] := List.length_eq_zero_iff.1 (by omega)
  subst h0
  revert h
  decide
theorem kin_cases {l : List Nd} {root : Bool} (hA : allB l root l.length = true) {i : Nat} (hi : i < l.length) : kin l i = 1 ∨ kin l i = 2 ∨ kin l i = 3 ∨ kin l i = 4 ∨ kin l i = 5 ∨ kin l i = 6 := by
  have hg := allB_good hA i hi
  unfold good at hg
  rw [Bool.and_eq_true] at hg
  have hg := hg.2
  split at hg
  · unfold headB at hg
    simp only [Bool.and_eq_true, decide_eq_true_eq] at hg
    omega
  · unfold fitsB at hg
    rw [Bool.and_eq_true] at hg
    have hk := hg.2
    unfold fitsK at hk
    by_cases h2 : kin l i = 2; · omega
    by_cases h3 : kin l i = 3; · omega
    by_cases h4 : kin l i = 4; · omega
    by_cases h5 : kin l i = 5; · omega
    by_cases h6 : kin l i = 6; · omega
    rw [if_neg h2, if_neg h3, if_neg h4, if_neg h5, if_neg h6] at hk
    cases hk
theorem wt_in (l : List Nd) {a b : Nat} (h1 : a ≤ b) (h2 : b ≤ l.length) : wt l a b ≤ wt l 0 l.length := by
  have e1 := wt_split l 0 a l.length (by omega) (by omega)
  have e2 := wt_split l a b l.length h1 h2
  omega
theorem pr_wt {l : List Nd} {root : Bool} (hA : allB l root l.length = true) {i : Nat} (hi : i < l.length) : (prN l i).length ≤ wt l 0 l.length := by
  obtain ⟨s1, s2, _, _⟩ := endN_spec l i hi
  exact Nat.le_trans (pr_len hA l.length i (by omega) hi) (wt_in l (by omega) s2)
end Go.Proofs.YtkjodleggfacbaaDoor.Ppr
namespace Go.Proofs.YtkjodleggfacbaaDoor.Wpr
open Go Go.RowKit Go.Proofs.YtkjodleggfacbaaDoor.Kb Go.Proofs.YtkjodleggfacbaaDoor.Emk Go.Proofs.YtkjodleggfacbaaDoor.Wtr

theorem node_all (A : Option Addr) (l : List Ptr.Nd) (c : Nat) (root : Bool) (hA : Ptr.allB l root l.length = true) (hl : l.length ≤ 100000) (w0 : World) (hr : RdN w0 A l) : ∀ n i, l.length - i ≤ n → i < l.length → NodeOk A l c w0 i := by
  intro n
  induction n with
  | zero => intro i h hi; omega
  | succ n ih =>
    intro i h hi
    have hN : ∀ j, i < j → j < l.length → NodeOk A l c w0 j := fun j h1 h2 => ih j (by omega) h2
    rcases Ppr.kin_cases hA hi with hk | hk | hk | hk | hk | hk
    · exact node_root A l c root hA w0 hr i hi hl hk hN
    · exact node_elem A l c root hA w0 hr i hi hl hk hN
    · exact node_attr A l c root hA w0 hr i hi hl hk
    · exact node_text A l c root hA w0 hr i hi hl hk
    · exact node_comment A l c root hA w0 hr i hi hl hk
    · exact node_instr A l c root hA w0 hr i hi hl hk
theorem wr_new (A : Option Addr) (n c : Nat) (w : World) : Wr A n c w.heap.size [] (w.alloc (.cells #[.pointer none, .slice none 0 0, .slice A n c] 47)) :=
  .inl ⟨.slice none 0 0, heap_alloc_new w _, World.ownsRow_nil _ _ _ _, by simp [Value.ownBlock]⟩
set_option maxRecDepth 100000 in
set_option maxHeartbeats 2000000 in
theorem Print_any (A : Option Addr) (l : List Ptr.Nd) (c : Nat) (w : World) (hr : RdN w A l) (hl : l.length ≤ 100000) (hf : FitP l) (hE : TEnv w) (hz : Ppr.wt l 0 l.length ≤ 1000000000) :
    Calls Tryd.prog 9 #[.slice A l.length c] w fun e w' => e = .returned (.tuple #[.string ⟨(Ppr.prR l).1.toArray⟩, .int .i64 (Ppr.prR l).2]) ∧ Below w.heap.size w w' := by
  have CC := Kept.mk (check_any A l c w hr hl hf hE)
  have HR := Kept.mk hr
  clear hr hf hE
  by_cases h0 : Ptr.chk l true = 0
  · have hp : Ppr.prR l = (Ppr.prN l 0, 0) := if_pos h0
    rw [hp]
    rw [h0] at CC
    have hA := Ppr.chk_all h0
    have hpos := Ppr.chk_pos h0
    have CN := Kept.mk (fun w0 (hr : RdN w0 A l) => node_all A l c true hA hl w0 hr l.length 0 (by omega) hpos [] (w0.alloc (.cells #[.pointer none, .slice none 0 0, .slice A l.length c] 47)) (wr_new A l.length c w0) ((Below.refl _ _).alloc (Nat.le_refl _) _) (by have := Ppr.pr_wt hA hpos; show 0 + _ ≤ _; omega))
    clear hp h0
    go_enter Tryd.func9, Tryd.ntmps9
    go_wp2_with (fail)
    refine CC.out.mono ?_; rintro e w1 ⟨rfl, hb1⟩
    have H1 := Kept.mk hb1
    have C1 := Kept.mk (CN.out w1 (HR.out.below hb1))
    clear CN CC hb1
    go_wp2_with (fail)
    refine C1.out.mono ?_; rintro e w2 ⟨rfl, h2, hb2, _⟩
    have C2 := Kept.mk (string_any (Nat.le_refl _) h2)
    have H2 := Kept.mk (H1.out.trans (hb2.mono H1.out.size))
    have hs := hb2.size
    clear C1 h2
    go_wp2_with (fail)
    refine C2.out.mono ?_; rintro e w3 ⟨rfl, _, hb3, _⟩
    have H3 := Kept.mk (H2.out.trans (hb3.mono H1.out.size))
    clear C2 hb3 hb2
    go_wp2
    go_ret2
    exact ⟨by simp, H3.out⟩
  · have hp : Ppr.prR l = ([], 4) := if_neg h0
    rw [hp]
    have hn : ((Ptr.chk l true : Nat) : Int) ≠ 0 := by omega
    have hn2 : (((Ptr.chk l true : Nat) : Int) != 0) = true := by simp; omega
    clear hp
    go_enter Tryd.func9, Tryd.ntmps9
    go_wp2_with (fail)
    refine CC.out.mono ?_; rintro e w1 ⟨rfl, hb1⟩
    go_wp2
    go_ret2
    exact ⟨rfl, hb1⟩
set_option maxRecDepth 100000 in
set_option maxHeartbeats 2000000 in
theorem Node_any (A : Option Addr) (l : List Ptr.Nd) (c : Nat) (a : Int) (w : World) (hr : RdN w A l) (hl : l.length ≤ 100000) (hf : FitP l) (hE : TEnv w) (hz : Ppr.wt l 0 l.length ≤ 1000000000) :
    Calls Tryd.prog 10 #[.slice A l.length c, .int .i64 a] w fun e w' => e = .returned (.tuple #[.string ⟨(Ppr.ndR l a).1.toArray⟩, .int .i64 (Ppr.ndR l a).2]) ∧ Below w.heap.size w w' := by
  have CC := Kept.mk (check_any A l c w hr hl hf hE)
  have CF := Kept.mk (fun w1 (hb : Below w.heap.size w w1) => fragment_any A l c w1 (hr.below hb) hl hf (hE.below hb))
  have HR := Kept.mk hr
  clear hr hf hE
  -- what is done with a right row, behind the checks
  have fin : ∀ (root : Bool), Ptr.allB l root l.length = true → ¬ (a < 0 ∨ (l.length : Int) ≤ a) → Kept (∀ w0, RdN w0 A l → Calls Tryd.prog 21 #[.pointer (some ⟨w0.heap.size, 0, none⟩), .int .i64 a] (w0.alloc (.cells #[.pointer none, .slice none 0 0, .slice A l.length c] 47)) fun e w' => (∃ n : Int, e = .returned (.int .i64 n)) ∧ Wr A l.length c w0.heap.size (Ppr.prN l a.toNat) w' ∧ Below w0.heap.size w0 w') := fun root hA ha => ⟨fun w0 hr0 => by
    obtain ⟨m, rfl⟩ : ∃ m : Nat, a = m := ⟨a.toNat, by omega⟩
    have hm : m < l.length := by omega
    refine (node_all A l c root hA hl w0 hr0 l.length m (by omega) hm [] _ (wr_new A l.length c w0) ((Below.refl _ _).alloc (Nat.le_refl _) _) (by have := Ppr.pr_wt hA hm; show 0 + _ ≤ _; omega)).mono ?_
    rintro e w' ⟨he, h1, h2, _⟩
    exact ⟨⟨_, he⟩, h1, h2⟩⟩
  obtain ⟨R, hR⟩ : ∃ R, Ppr.ndR l a = R := ⟨_, rfl⟩
  rw [hR]
  unfold Ppr.ndR at hR
  have hbt : ∀ b, (((Ptr.chk l b : Nat) : Int) != 0) = !decide (Ptr.chk l b = 0) := fun b => by
    by_cases h : Ptr.chk l b = 0
    · simp [h]
    · have : ((Ptr.chk l b : Nat) : Int) ≠ 0 := by omega
      simp [h]
  by_cases h1 : Ptr.chk l true = 0
  · rw [if_neg (by simp [h1])] at hR
    rw [h1] at CC
    clear CF
    by_cases ha : a < 0 ∨ (l.length : Int) ≤ a
    · rw [if_pos ha] at hR
      subst hR
      clear fin
      rcases Classical.em (a < 0) with ha0 | ha0
      · go_enter Tryd.func10, Tryd.ntmps10
        go_wp2_with (fail)
        refine CC.out.mono ?_; rintro e w1 ⟨rfl, hb1⟩
        go_wp2
        go_ret2
        exact ⟨rfl, hb1⟩
      · have ha1 : (l.length : Int) ≤ a := by omega
        go_enter Tryd.func10, Tryd.ntmps10
        go_wp2_with (fail)
        refine CC.out.mono ?_; rintro e w1 ⟨rfl, hb1⟩
        go_wp2
        go_ret2
        exact ⟨rfl, hb1⟩
    · rw [if_neg ha] at hR
      subst hR
      have CN := fin true (Ppr.chk_all h1) ha
      have ha0 : ¬ a < 0 := by omega
      have ha1 : ¬ (l.length : Int) ≤ a := by omega
      clear fin
      go_enter Tryd.func10, Tryd.ntmps10
      go_wp2_with (fail)
      refine CC.out.mono ?_; rintro e w1 ⟨rfl, hb1⟩
      have H1 := Kept.mk hb1
      have C1 := Kept.mk (CN.out w1 (HR.out.below hb1))
      clear CN CC hb1
      go_wp2_with (fail)
      refine C1.out.mono ?_; rintro e w2 ⟨⟨n, rfl⟩, h2, hb2⟩
      have C2 := Kept.mk (string_any (Nat.le_refl _) h2)
      have H2 := Kept.mk (H1.out.trans (hb2.mono H1.out.size))
      clear C1 h2
      go_wp2_with (fail)
      refine C2.out.mono ?_; rintro e w3 ⟨rfl, _, hb3, _⟩
      have H3 := Kept.mk (H2.out.trans (hb3.mono H1.out.size))
      clear C2 hb3 hb2
      go_wp2
      go_ret2
      exact ⟨rfl, H3.out⟩
  · by_cases h2 : Ptr.chk l false = 0
    · rw [if_neg (by simp [h2])] at hR
      have CF : Kept (∀ w1, Below w.heap.size w w1 → Calls Tryd.prog 23 #[.slice A l.length c] w1 fun e w' => e = .returned (.int .i64 0) ∧ Below w1.heap.size w1 w') := ⟨fun w1 hb => by have h := CF.out w1 hb; rw [h2] at h; exact h⟩
      have hn := hbt true
      rw [decide_eq_false h1] at hn
      simp only [Bool.not_false] at hn
      have hnn : ¬ ((Ptr.chk l true : Nat) : Int) = 0 := by omega
      by_cases ha : a < 0 ∨ (l.length : Int) ≤ a
      · rw [if_pos ha] at hR
        subst hR
        clear fin
        rcases Classical.em (a < 0) with ha0 | ha0
        · go_enter Tryd.func10, Tryd.ntmps10
          go_wp2_with (fail)
          refine CC.out.mono ?_; rintro e w1 ⟨rfl, hb1⟩
          go_wp2_with (fail)
          refine (CF.out w1 hb1).mono ?_; rintro e w2 ⟨rfl, hb2⟩
          have H2 := Kept.mk (hb1.trans (hb2.mono hb1.size))
          go_wp2
          go_ret2
          exact ⟨rfl, H2.out⟩
        · have ha1 : (l.length : Int) ≤ a := by omega
          go_enter Tryd.func10, Tryd.ntmps10
          go_wp2_with (fail)
          refine CC.out.mono ?_; rintro e w1 ⟨rfl, hb1⟩
          go_wp2_with (fail)
          refine (CF.out w1 hb1).mono ?_; rintro e w2 ⟨rfl, hb2⟩
          have H2 := Kept.mk (hb1.trans (hb2.mono hb1.size))
          go_wp2
          go_ret2
          exact ⟨rfl, H2.out⟩
      · rw [if_neg ha] at hR
        subst hR
        have CN := fin false (Ppr.chk_all h2) ha
        have ha0 : ¬ a < 0 := by omega
        have ha1 : ¬ (l.length : Int) ≤ a := by omega
        clear fin
        go_enter Tryd.func10, Tryd.ntmps10
        go_wp2_with (fail)
        refine CC.out.mono ?_; rintro e w0 ⟨rfl, hb0⟩
        go_wp2_with (fail)
        refine (CF.out w0 hb0).mono ?_; rintro e w1 ⟨rfl, hb9⟩
        have hb1 := hb0.trans (hb9.mono hb0.size)
        have H1 := Kept.mk hb1
        have C1 := Kept.mk (CN.out w1 (HR.out.below hb1))
        clear CN CC hb1
        go_wp2_with (fail)
        refine C1.out.mono ?_; rintro e w2 ⟨⟨n, rfl⟩, h2, hb2⟩
        have C2 := Kept.mk (string_any (Nat.le_refl _) h2)
        have H2 := Kept.mk (H1.out.trans (hb2.mono H1.out.size))
        clear C1 h2
        go_wp2_with (fail)
        refine C2.out.mono ?_; rintro e w3 ⟨rfl, _, hb3, _⟩
        have H3 := Kept.mk (H2.out.trans (hb3.mono H1.out.size))
        clear C2 hb3 hb2
        go_wp2
        go_ret2
        exact ⟨rfl, H3.out⟩
    · rw [if_pos ⟨h1, h2⟩] at hR
      subst hR
      have hn := hbt true
      rw [decide_eq_false h1] at hn
      have hn2 := hbt false
      rw [decide_eq_false h2] at hn2
      simp only [Bool.not_false] at hn hn2
      have hnn : ¬ ((Ptr.chk l true : Nat) : Int) = 0 := by omega
      have hnn2 : ¬ ((Ptr.chk l false : Nat) : Int) = 0 := by omega
      clear fin
      go_enter Tryd.func10, Tryd.ntmps10
      go_wp2_with (fail)
      refine CC.out.mono ?_; rintro e w1 ⟨rfl, hb1⟩
      go_wp2_with (fail)
      refine (CF.out w1 hb1).mono ?_; rintro e w2 ⟨rfl, hb2⟩
      have H2 := Kept.mk (hb1.trans (hb2.mono hb1.size))
      go_wp2
      go_ret2
      exact ⟨rfl, H2.out⟩
end Go.Proofs.YtkjodleggfacbaaDoor.Wpr
