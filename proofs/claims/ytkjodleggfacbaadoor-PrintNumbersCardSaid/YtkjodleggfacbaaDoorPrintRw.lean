/- The walks over the document's children and written (chapter 08). -/
import Derived.Test.YtkjodleggfacbaaDoorPrintR
import Derived.Test.YtkjodleggfacbaaDoorPrintPr
import Derived.Test.YtkjodleggfacbaaDoorBeh
namespace Go.Proofs.YtkjodleggfacbaaDoor.Wpr
open Go Go.RowKit Go.Proofs.YtkjodleggfacbaaDoor.Kb Go.Proofs.YtkjodleggfacbaaDoor.Emk Go.Proofs.YtkjodleggfacbaaDoor.Wtr

def icP (l : List Nat) : List Value := l.map fun (x : Nat) => Value.int .i64 (x : Int)
theorem icP_append (l m : List Nat) : icP (l ++ m) = icP l ++ icP m := by simp [icP]
theorem infoIP : (Tryd.prog.info? 3).map (fun i => (i.zero, i.size, i.bytes)) = some (some (.int .i64 0), 1, 8) := by kernel_rfl
set_option maxRecDepth 100000 in
set_option maxHeartbeats 2000000 in
theorem children_any (A : Option Addr) (l : List Ptr.Nd) (c i : Nat) (root : Bool) (hA : Ptr.allB l root l.length = true) (w : World) (hr : RdN w A l) (hi : i < l.length) (hl : l.length ≤ 100000) :
    Calls Tryd.prog 35 #[.slice A l.length c, .int .i64 (i : Int)] w fun e w' => ∃ v, e = .returned v ∧ w'.ownsRow w.heap.size 3 1 v (Ppr.childs l i).length (icP (Ppr.childs l i)) ∧ Below w.heap.size w w' := by
  obtain ⟨i0', hin, hz0, hz1, hz2⟩ := info_parts infoIP
  have HCH := Kept.mk (Ppr.childs_from hA hi)
  have HR := Kept.mk hr
  have H0 : Kept (w.ownsRow w.heap.size 3 1 (.slice none 0 0) (Ptr.kidsL l i false (i + 1) (i + 1)).length (icP (Ptr.kidsL l i false (i + 1) (i + 1)))) := ⟨by
    have e : Ptr.kidsL l i false (i + 1) (i + 1) = [] := by unfold Ptr.kidsL; simp
    rw [e]
    exact World.ownsRow_nil _ _ _ _⟩
  have hwr := next_i (i := i) (by omega)
  clear hr hA
  go_enter Tryd.func35, Tryd.ntmps35
  go_wp2
  go_loopw [5, 6] (fun v j wx => ∃ k : Nat, j = .int .i64 (k : Int) ∧ i + 1 ≤ k ∧ k ≤ l.length ∧ Kept (wx.ownsRow w.heap.size 3 1 v (Ptr.kidsL l i false (i + 1) k).length (icP (Ptr.kidsL l i false (i + 1) k))) ∧ Kept (Below w.heap.size w wx)) (fun _ j _ => l.length - (intOf j).toNat)
  case atStart => exact ⟨i + 1, by simp, by omega, by omega, H0, ⟨Below.refl _ _⟩⟩
  case round =>
    clear H0
    obtain ⟨k, rfl, hk1, hk2, HO, HB⟩ := hrel
    have k0 : (0 : Int) ≤ (k : Int) := by omega
    have hzb := HB.out.size
    by_cases hlt : k < l.length
    · have k1 : (k : Int) < (l.length : Int) := by omega
      obtain ⟨g, off, rfl, c0, _, _, c3⟩ := (HR.out.below HB.out).at_ hlt
      simp only at c0 c3
      have hst := Ptr.kidsL_step l i false (i + 1) k hk1
      have hle := Ptr.kidsL_le l i false (i + 1) k
      have hwk : IntKind.i64.wrap ((k : Int) + 1) = (k : Int) + 1 := by rw [IntKind.wrap_i64]; omega
      generalize Ptr.kidsL l i false (i + 1) k = K at HO hst hle
      by_cases hp : Ptr.par l k = i
      · rw [hp] at c3
        by_cases h3 : Ptr.kin l k = 3
        · rw [h3] at c0
          rw [decide_eq_true hp, h3] at hst
          have HST : Kept (Ptr.kidsL l i false (i + 1) (k + 1) = K) := ⟨by rw [hst]; simp⟩
          clear hst
          go_wp2
          go_roundw
          case rel => exact ⟨k + 1, by go_num, by omega, by omega, ⟨by rw [HST.out]; exact HO.out⟩, HB⟩
          case measure => simp [intOf]; omega
        · have h3b : ((Ptr.kin l k : Int) == 3) = false := by simp; omega
          have h3c : ((Ptr.kin l k : Int) != 3) = true := by simp; omega
          have h3d : ¬ ((Ptr.kin l k : Int) = 3) := by omega
          rw [decide_eq_true hp, show (Ptr.kin l k == 3) = false by simpa using h3] at hst
          have HST : Kept (Ptr.kidsL l i false (i + 1) (k + 1) = K ++ [k]) := ⟨by rw [hst]; simp⟩
          clear hst
          go_wp2_with (at_builtin; refine wpList_append_own _ rfl (.tmp 30) (.tmp 32) 57 rfl w.heap.size 3 i0' (.int .i64 0) 1 8 Tryd.underlying57 hin hz0 hz1 hz2 rfl (by decide) _ K.length _ (by rfl) (HO.out.alloc _) ⟨wr.heap.size, 0, none⟩ 1 1 [.int .i64 (k : Int)] (by rfl) (by rfl) (World.news_of_block (heap_alloc_new _ _)) (by intro u hu; simp at hu; subst hu; rfl) (by unfold maxLen; omega) (by omega) (by simp; omega) ?_; intro v5 w5 hown5 hgrow5 _; have hb5 := Below.grown (HB.out.alloc hzb _) hgrow5 (by simp; omega) (fun q hq => (HO.out.lt q hq).1); have O5 := Kept.mk hown5; have B5 := Kept.mk hb5; clear hown5 hgrow5 hb5)
          go_roundw
          case rel => exact ⟨k + 1, by go_num, by omega, by omega, ⟨by rw [HST.out, icP_append, List.length_append]; exact O5.out⟩, B5⟩
          case measure => simp [intOf]; omega
      · have hpb : (Ptr.par l k == (i : Int)) = false := by simpa using hp
        rw [decide_eq_false hp] at hst
        have HST : Kept (Ptr.kidsL l i false (i + 1) (k + 1) = K) := ⟨by rw [hst]; simp⟩
        clear hst
        go_wp2
        go_roundw
        case rel => exact ⟨k + 1, by go_num, by omega, by omega, ⟨by rw [HST.out]; exact HO.out⟩, HB⟩
        case measure => simp [intOf]; omega
    · obtain rfl : k = l.length := by omega
      rw [← HCH.out] at HO
      go_wp2
      go_ret
      exact ⟨_, rfl, HO.out, HB.out⟩
/-- what the walk over the document's written shows -/
def RefOk (A : Option Addr) (l : List Ptr.Nd) (c j : Nat) : Prop := ∀ w, RdN w A l → Calls Tryd.prog 25 #[.slice A l.length c, .int .i64 (j : Int)] w fun e w' => ∃ D : ByteArray, e = .returned (.string D) ∧ D.data.toList = Ppr.prN l j ∧ Below w.heap.size w w'
theorem catP (a b : ByteArray) : (a ++ b).data.toList = a.data.toList ++ b.data.toList := by simp
theorem catN (n : ByteArray) (l : List UInt8) (h : n.data.toList = l) : n.size = l.length := by rw [← h, size_len]

set_option maxRecDepth 100000 in
set_option maxHeartbeats 4000000 in
theorem ref_comment (A : Option Addr) (l : List Ptr.Nd) (c i : Nat) (root : Bool) (hA : Ptr.allB l root l.length = true) (hi : i < l.length) (hz : Ppr.wt l 0 l.length ≤ 1000000000) (hk : Ptr.kin l i = 5) : RefOk A l c i := by
  intro w hr
  have hz := Nat.le_trans (Ppr.pr_wt hA hi) hz
  obtain ⟨g, off, rfl, c0, c1, c2, c3⟩ := hr.at_ hi
  simp only at c0 c1 c2 c3
  rw [hk] at c0
  have hprt : Ppr.prN l i = [60, 33, 45, 45] ++ Ptr.val l i ++ [45, 45, 62] := by rw [Ppr.prN_at (Ppr.tree_rng hA) hi]; simp [hk]
  have i0 : (0 : Int) ≤ (i : Int) := by omega
  have i1 : (i : Int) < (l.length : Int) := by omega
  obtain ⟨nm, hnm⟩ : ∃ nm : ByteArray, nm = ⟨(Ptr.nam l i).toArray⟩ := ⟨_, rfl⟩
  obtain ⟨vl, hvl⟩ : ∃ vl : ByteArray, vl = ⟨(Ptr.val l i).toArray⟩ := ⟨_, rfl⟩
  rw [← hnm] at c1
  rw [← hvl] at c2
  have hn2 : nm.data.toList = Ptr.nam l i := by rw [hnm]
  have hv2 : vl.data.toList = Ptr.val l i := by rw [hvl]
  rw [hprt] at hz ⊢
  rw [← hv2] at hz ⊢
  have hnz := size_len nm
  have hvz := size_len vl
  obtain ⟨P, hP⟩ : ∃ P : Int, P = Ptr.par l i := ⟨_, rfl⟩
  rw [← hP] at c3
  have hab := (Below.refl w.heap.size w).alloc (Nat.le_refl _) (.cells #[.int .u8 5, .string nm, .string vl, .int .i64 P] 37)
  have hal := heap_alloc_new w (.cells #[.int .u8 5, .string nm, .string vl, .int .i64 P] 37)
  have HAB := Kept.mk hab
  have HR := Kept.mk (hr.below hab)
  clear hr hnm hvl hprt hab hn2 hv2 hP
  go_enter Tryd.func25, Tryd.ntmps25
  go_upto_region 3 with (fail)
  obtain ⟨q, hq⟩ : ∃ q, q = w.heap.size := ⟨_, rfl⟩
  rw [← hq] at hal ⊢
  generalize w.alloc (.cells #[.int .u8 5, .string nm, .string vl, .int .i64 P] 37) = W1 at HR HAB hal ⊢
  have n0 : W1.cell? ⟨q, 0, none⟩ = some (.int .u8 5) := by rw [cell_of_row W1 q _ _ _ _ hal]; rfl
  have n1 : W1.cell? ⟨q, 1, none⟩ = some (.string nm) := by rw [cell_of_row W1 q _ _ _ _ hal]; rfl
  have n2 : W1.cell? ⟨q, 2, none⟩ = some (.string vl) := by rw [cell_of_row W1 q _ _ _ _ hal]; rfl
  clear hal hq c0 c1 c2 c3
  simp only [List.length_append, List.length_cons, List.length_nil] at hz
  have z1 : ¬ 9223372036854775807 < 4 + vl.size := by omega
  have z2 : ¬ 9223372036854775807 < 4 + vl.size + 3 := by omega
  go_wp2
  go_ret
  exact ⟨_, rfl, by simp, HAB.out⟩
set_option maxRecDepth 100000 in
set_option maxHeartbeats 4000000 in
theorem ref_text (A : Option Addr) (l : List Ptr.Nd) (c i : Nat) (root : Bool) (hA : Ptr.allB l root l.length = true) (hi : i < l.length) (hz : Ppr.wt l 0 l.length ≤ 1000000000) (hk : Ptr.kin l i = 4) : RefOk A l c i := by
  intro w hr
  have hz := Nat.le_trans (Ppr.pr_wt hA hi) hz
  obtain ⟨g, off, rfl, c0, c1, c2, c3⟩ := hr.at_ hi
  simp only at c0 c1 c2 c3
  rw [hk] at c0
  have hprt : Ppr.prN l i = Ppr.escL (Ptr.val l i) := by rw [Ppr.prN_at (Ppr.tree_rng hA) hi]; simp [hk]
  have i0 : (0 : Int) ≤ (i : Int) := by omega
  have i1 : (i : Int) < (l.length : Int) := by omega
  obtain ⟨nm, hnm⟩ : ∃ nm : ByteArray, nm = ⟨(Ptr.nam l i).toArray⟩ := ⟨_, rfl⟩
  obtain ⟨vl, hvl⟩ : ∃ vl : ByteArray, vl = ⟨(Ptr.val l i).toArray⟩ := ⟨_, rfl⟩
  rw [← hnm] at c1
  rw [← hvl] at c2
  have hn2 : nm.data.toList = Ptr.nam l i := by rw [hnm]
  have hv2 : vl.data.toList = Ptr.val l i := by rw [hvl]
  rw [hprt] at hz ⊢
  rw [← hv2] at hz ⊢
  have hnz := size_len nm
  have hvz := size_len vl
  obtain ⟨P, hP⟩ : ∃ P : Int, P = Ptr.par l i := ⟨_, rfl⟩
  rw [← hP] at c3
  have hab := (Below.refl w.heap.size w).alloc (Nat.le_refl _) (.cells #[.int .u8 4, .string nm, .string vl, .int .i64 P] 37)
  have hal := heap_alloc_new w (.cells #[.int .u8 4, .string nm, .string vl, .int .i64 P] 37)
  have HAB := Kept.mk hab
  have HR := Kept.mk (hr.below hab)
  clear hr hnm hvl hprt hab hn2 hv2 hP
  go_enter Tryd.func25, Tryd.ntmps25
  go_upto_region 3 with (fail)
  obtain ⟨q, hq⟩ : ∃ q, q = w.heap.size := ⟨_, rfl⟩
  rw [← hq] at hal ⊢
  generalize w.alloc (.cells #[.int .u8 4, .string nm, .string vl, .int .i64 P] 37) = W1 at HR HAB hal ⊢
  have n0 : W1.cell? ⟨q, 0, none⟩ = some (.int .u8 4) := by rw [cell_of_row W1 q _ _ _ _ hal]; rfl
  have n1 : W1.cell? ⟨q, 1, none⟩ = some (.string nm) := by rw [cell_of_row W1 q _ _ _ _ hal]; rfl
  have n2 : W1.cell? ⟨q, 2, none⟩ = some (.string vl) := by rw [cell_of_row W1 q _ _ _ _ hal]; rfl
  clear hal hq c0 c1 c2 c3
  have hvs : vl.size ≤ 10000000000 := by
    have h := Ppr.escL_ge vl.data.toList
    omega
  have CE := Kept.mk (refEscape_any vl W1 hvs)
  go_wp2_with (go_at_call 15; refine CE.out.mono ?_; rintro e w4 ⟨rfl, hb4⟩; have H4 := Kept.mk hb4; clear hb4)
  go_ret
  exact ⟨_, rfl, by simp, HAB.out.trans (H4.out.mono HAB.out.size)⟩
set_option maxRecDepth 100000 in
set_option maxHeartbeats 4000000 in
theorem ref_attr (A : Option Addr) (l : List Ptr.Nd) (c i : Nat) (root : Bool) (hA : Ptr.allB l root l.length = true) (hi : i < l.length) (hz : Ppr.wt l 0 l.length ≤ 1000000000) (hk : Ptr.kin l i = 3) : RefOk A l c i := by
  intro w hr
  have hz := Nat.le_trans (Ppr.pr_wt hA hi) hz
  obtain ⟨g, off, rfl, c0, c1, c2, c3⟩ := hr.at_ hi
  simp only at c0 c1 c2 c3
  rw [hk] at c0
  have hprt : Ppr.prN l i = Ptr.nam l i ++ 61 :: Ppr.quoL (Ptr.val l i) := by rw [Ppr.prN_at (Ppr.tree_rng hA) hi]; simp [hk]
  have i0 : (0 : Int) ≤ (i : Int) := by omega
  have i1 : (i : Int) < (l.length : Int) := by omega
  obtain ⟨nm, hnm⟩ : ∃ nm : ByteArray, nm = ⟨(Ptr.nam l i).toArray⟩ := ⟨_, rfl⟩
  obtain ⟨vl, hvl⟩ : ∃ vl : ByteArray, vl = ⟨(Ptr.val l i).toArray⟩ := ⟨_, rfl⟩
  rw [← hnm] at c1
  rw [← hvl] at c2
  have hn2 : nm.data.toList = Ptr.nam l i := by rw [hnm]
  have hv2 : vl.data.toList = Ptr.val l i := by rw [hvl]
  rw [hprt] at hz ⊢
  rw [← hn2, ← hv2] at hz ⊢
  have hnz := size_len nm
  have hvz := size_len vl
  obtain ⟨P, hP⟩ : ∃ P : Int, P = Ptr.par l i := ⟨_, rfl⟩
  rw [← hP] at c3
  have hab := (Below.refl w.heap.size w).alloc (Nat.le_refl _) (.cells #[.int .u8 3, .string nm, .string vl, .int .i64 P] 37)
  have hal := heap_alloc_new w (.cells #[.int .u8 3, .string nm, .string vl, .int .i64 P] 37)
  have HAB := Kept.mk hab
  have HR := Kept.mk (hr.below hab)
  clear hr hnm hvl hprt hab hn2 hv2 hP
  go_enter Tryd.func25, Tryd.ntmps25
  go_upto_region 3 with (fail)
  obtain ⟨q, hq⟩ : ∃ q, q = w.heap.size := ⟨_, rfl⟩
  rw [← hq] at hal ⊢
  generalize w.alloc (.cells #[.int .u8 3, .string nm, .string vl, .int .i64 P] 37) = W1 at HR HAB hal ⊢
  have n0 : W1.cell? ⟨q, 0, none⟩ = some (.int .u8 3) := by rw [cell_of_row W1 q _ _ _ _ hal]; rfl
  have n1 : W1.cell? ⟨q, 1, none⟩ = some (.string nm) := by rw [cell_of_row W1 q _ _ _ _ hal]; rfl
  have n2 : W1.cell? ⟨q, 2, none⟩ = some (.string vl) := by rw [cell_of_row W1 q _ _ _ _ hal]; rfl
  clear hal hq c0 c1 c2 c3
  simp only [List.length_append, List.length_cons] at hz
  obtain ⟨D, hD⟩ : ∃ D : ByteArray, D = ⟨(Ppr.quoL vl.data.toList).toArray⟩ := ⟨_, rfl⟩
  have hD2 : D.data.toList = Ppr.quoL vl.data.toList := by rw [hD]
  have hvs : vl.size ≤ 10000000000 := by
    have h := Ppr.putL_ge Ppr.valueC vl.data.toList
    unfold Ppr.quoL at hz
    simp only [List.length_append, List.length_cons] at hz
    omega
  have cE := Kept.mk (fun (x : Beh W1) => show Calls Tryd.prog 17 #[.string vl] x.fin fun e w' => e = .returned (.string D) ∧ Below x.fin.heap.size x.fin w' by rw [hD]; exact refQuote_any vl x.fin hvs)
  have hDz := size_len D
  rw [← hD2] at hz
  have z1 : ¬ 9223372036854775807 < nm.size + 1 := by omega
  have z2 : ¬ 9223372036854775807 < nm.size + 1 + D.size := by omega
  have HD := Kept.mk hD2
  have x1 := beh_cell n1
  have x2 := beh_cell n2
  clear hD hD2 n0 n1 n2
  go_wp2
  refine wp_region_beh (by kernel_rfl) (by kernel_rfl) ?_
  repeat
    (refine Qw_step (fun K hK => ?_)
     go_simp
     first
       | (refine hK _ ?_; clear hK K)
       | (apply Exists.intro
          refine ⟨fun _ => ?_, hK _ ?_⟩
          (go_at_call 17; exact Calls.beh_of (cE.out _))
          clear hK K))
  refine Qw_nil ?_
  rintro _ ⟨⟨w5, hb5⟩, rfl⟩
  go_wp2
  go_ret
  exact ⟨_, rfl, by rw [← HD.out]; simp, HAB.out.trans (hb5.mono HAB.out.size)⟩
set_option maxRecDepth 100000 in
set_option maxHeartbeats 4000000 in
theorem ref_instr (A : Option Addr) (l : List Ptr.Nd) (c i : Nat) (root : Bool) (hA : Ptr.allB l root l.length = true) (hi : i < l.length) (hz : Ppr.wt l 0 l.length ≤ 1000000000) (hk : Ptr.kin l i = 6) : RefOk A l c i := by
  intro w hr
  have hz := Nat.le_trans (Ppr.pr_wt hA hi) hz
  obtain ⟨g, off, rfl, c0, c1, c2, c3⟩ := hr.at_ hi
  simp only at c0 c1 c2 c3
  rw [hk] at c0
  have hprt : Ppr.prN l i = [60, 63] ++ Ptr.nam l i ++ (if Ptr.val l i = [] then [] else 32 :: Ptr.val l i) ++ [63, 62] := by rw [Ppr.prN_at (Ppr.tree_rng hA) hi]; simp [hk]
  have i0 : (0 : Int) ≤ (i : Int) := by omega
  have i1 : (i : Int) < (l.length : Int) := by omega
  obtain ⟨nm, hnm⟩ : ∃ nm : ByteArray, nm = ⟨(Ptr.nam l i).toArray⟩ := ⟨_, rfl⟩
  obtain ⟨vl, hvl⟩ : ∃ vl : ByteArray, vl = ⟨(Ptr.val l i).toArray⟩ := ⟨_, rfl⟩
  rw [← hnm] at c1
  rw [← hvl] at c2
  have hn2 : nm.data.toList = Ptr.nam l i := by rw [hnm]
  have hv2 : vl.data.toList = Ptr.val l i := by rw [hvl]
  rw [hprt] at hz ⊢
  rw [← hn2, ← hv2] at hz ⊢
  have hnz := size_len nm
  have hvz := size_len vl
  obtain ⟨P, hP⟩ : ∃ P : Int, P = Ptr.par l i := ⟨_, rfl⟩
  rw [← hP] at c3
  have hab := (Below.refl w.heap.size w).alloc (Nat.le_refl _) (.cells #[.int .u8 6, .string nm, .string vl, .int .i64 P] 37)
  have hal := heap_alloc_new w (.cells #[.int .u8 6, .string nm, .string vl, .int .i64 P] 37)
  have HAB := Kept.mk hab
  have HR := Kept.mk (hr.below hab)
  clear hr hnm hvl hprt hab hn2 hv2 hP
  obtain ⟨T, hT⟩ : ∃ T, T = [60, 63] ++ nm.data.toList ++ (if vl.data.toList = [] then [] else 32 :: vl.data.toList) ++ [63, 62] := ⟨_, rfl⟩
  rw [← hT]
  have HT := Kept.mk hT
  clear hT
  go_enter Tryd.func25, Tryd.ntmps25
  go_upto_region 3 with (fail)
  obtain ⟨q, hq⟩ : ∃ q, q = w.heap.size := ⟨_, rfl⟩
  rw [← hq] at hal ⊢
  generalize w.alloc (.cells #[.int .u8 6, .string nm, .string vl, .int .i64 P] 37) = W1 at HR HAB hal ⊢
  have n0 : W1.cell? ⟨q, 0, none⟩ = some (.int .u8 6) := by rw [cell_of_row W1 q _ _ _ _ hal]; rfl
  have n1 : W1.cell? ⟨q, 1, none⟩ = some (.string nm) := by rw [cell_of_row W1 q _ _ _ _ hal]; rfl
  have n2 : W1.cell? ⟨q, 2, none⟩ = some (.string vl) := by rw [cell_of_row W1 q _ _ _ _ hal]; rfl
  clear hal hq c0 c1 c2 c3
  by_cases hv : vl.data.toList = []
  · have hvl : vl = ⟨#[]⟩ := by
      apply ByteArray.ext
      apply Array.ext'
      exact hv
    subst hvl
    simp only [List.length_append, List.length_cons, List.length_nil] at hz
    have z1 : ¬ 9223372036854775807 < 2 + nm.size := by omega
    have z2 : ¬ 9223372036854775807 < 2 + nm.size + 2 := by omega
    clear hz hv hvz hnz
    go_wp2
    go_ret
    exact ⟨_, rfl, by rw [HT.out]; simp, HAB.out⟩
  · rw [if_neg hv] at hz
    obtain ⟨x, r, hxr⟩ : ∃ x r, vl.data.toList = x :: r := by
      cases h : vl.data.toList with
      | nil => exact absurd h hv
      | cons x r => exact ⟨x, r, rfl⟩
    rw [hxr] at hz
    have hvl : vl = ⟨(x :: r).toArray⟩ := by
      apply ByteArray.ext
      apply Array.ext'
      exact hxr
    subst hvl
    have hzz : (⟨(x :: r).toArray⟩ : ByteArray).size = r.length + 1 := by rw [Lib.size_mk]; rfl
    simp only [List.length_append, List.length_cons, List.length_nil] at hz
    have z1 : ¬ 9223372036854775807 < 2 + nm.size := by omega
    have z2 : ¬ 9223372036854775807 < 2 + nm.size + 1 := by omega
    have z3 : ¬ 9223372036854775807 < 2 + nm.size + 1 + (⟨(x :: r).toArray⟩ : ByteArray).size := by omega
    have z4 : ¬ 9223372036854775807 < 2 + nm.size + 1 + (⟨(x :: r).toArray⟩ : ByteArray).size + 2 := by omega
    have z3' : ¬ 9223372036854775807 < 2 + nm.size + 1 + (r.length + 1) := by omega
    have z4' : ¬ 9223372036854775807 < 2 + nm.size + 1 + (r.length + 1) + 2 := by omega
    go_wp2
    go_ret
    exact ⟨_, rfl, by rw [HT.out]; simp, HAB.out⟩
set_option maxRecDepth 100000 in
set_option maxHeartbeats 4000000 in
theorem ref_root (A : Option Addr) (l : List Ptr.Nd) (c i : Nat) (root : Bool) (hA : Ptr.allB l root l.length = true) (hi : i < l.length) (hz : Ppr.wt l 0 l.length ≤ 1000000000) (hk : Ptr.kin l i = 1) (hl : l.length ≤ 100000) (hN : ∀ j, i < j → j < l.length → RefOk A l c j) : RefOk A l c i := by
  intro w hr
  have hz := Nat.le_trans (Ppr.pr_wt hA hi) hz
  obtain ⟨g, off, rfl, c0, c1, c2, c3⟩ := hr.at_ hi
  simp only at c0 c1 c2 c3
  rw [hk] at c0
  have hprt : Ppr.prN l i = (Ppr.childs l i).flatMap (Ppr.prN l) := by rw [Ppr.prN_at (Ppr.tree_rng hA) hi]; simp [hk]
  have i0 : (0 : Int) ≤ (i : Int) := by omega
  have i1 : (i : Int) < (l.length : Int) := by omega
  obtain ⟨nm, hnm⟩ : ∃ nm : ByteArray, nm = ⟨(Ptr.nam l i).toArray⟩ := ⟨_, rfl⟩
  obtain ⟨vl, hvl⟩ : ∃ vl : ByteArray, vl = ⟨(Ptr.val l i).toArray⟩ := ⟨_, rfl⟩
  rw [← hnm] at c1
  rw [← hvl] at c2
  have hn2 : nm.data.toList = Ptr.nam l i := by rw [hnm]
  have hv2 : vl.data.toList = Ptr.val l i := by rw [hvl]
  rw [hprt] at hz ⊢
  skip
  have hnz := size_len nm
  have hvz := size_len vl
  obtain ⟨P, hP⟩ : ∃ P : Int, P = Ptr.par l i := ⟨_, rfl⟩
  rw [← hP] at c3
  have hab := (Below.refl w.heap.size w).alloc (Nat.le_refl _) (.cells #[.int .u8 1, .string nm, .string vl, .int .i64 P] 37)
  have hal := heap_alloc_new w (.cells #[.int .u8 1, .string nm, .string vl, .int .i64 P] 37)
  have HAB := Kept.mk hab
  have HR := Kept.mk (hr.below hab)
  clear hr hnm hvl hprt hab hn2 hv2 hP
  go_enter Tryd.func25, Tryd.ntmps25
  go_upto_region 3 with (fail)
  obtain ⟨q, hq⟩ : ∃ q, q = w.heap.size := ⟨_, rfl⟩
  rw [← hq] at hal ⊢
  generalize w.alloc (.cells #[.int .u8 1, .string nm, .string vl, .int .i64 P] 37) = W1 at HR HAB hal ⊢
  have n0 : W1.cell? ⟨q, 0, none⟩ = some (.int .u8 1) := by rw [cell_of_row W1 q _ _ _ _ hal]; rfl
  have n1 : W1.cell? ⟨q, 1, none⟩ = some (.string nm) := by rw [cell_of_row W1 q _ _ _ _ hal]; rfl
  have n2 : W1.cell? ⟨q, 2, none⟩ = some (.string vl) := by rw [cell_of_row W1 q _ _ _ _ hal]; rfl
  clear hal hq c0 c1 c2 c3
  have CH := Kept.mk (children_any (some ⟨g, off, none⟩) l c i root hA W1 HR.out hi hl)
  obtain ⟨L, hL⟩ : ∃ L, Ppr.childs l i = L := ⟨_, rfl⟩
  have hLm : ∀ j ∈ L, i < j ∧ j < l.length := fun j hj => by rw [← hL] at hj; exact Ppr.childs_mem (Ppr.tree_rng hA) hj
  have hLl : L.length ≤ 100000 := by
    have := Ptr.kidsL_le l i false 0 l.length
    rw [← hL]
    unfold Ppr.childs
    omega
  rw [hL] at CH
  have HL := Kept.mk hL
  have HLZ : Kept ((L.flatMap (Ppr.prN l)).length ≤ 1000000000) := ⟨by rw [← hL]; exact hz⟩
  have HLM := Kept.mk hLm
  have HN := Kept.mk hN
  have HI : Kept (∀ k, ((L.take k).flatMap (Ppr.prN l)).length ≤ (L.flatMap (Ppr.prN l)).length) := ⟨fun k => by
    have e : L.flatMap (Ppr.prN l) = (L.take k).flatMap (Ppr.prN l) ++ (L.drop k).flatMap (Ppr.prN l) := by rw [← List.flatMap_append, List.take_append_drop]
    rw [e, List.length_append]; omega⟩
  clear hL hLm hN
  go_wp2_with (fail)
  refine CH.out.mono ?_; rintro e w5 ⟨v5, rfl, ho5, hb5⟩
  obtain ⟨A5, c5, rfl, _⟩ := Flt.own_slice ho5
  have m0 := cell_keep hb5 n0
  have m1 := cell_keep hb5 n1
  have R5 := Kept.mk (HR.out.below hb5)
  have B5 := Kept.mk (HAB.out.trans (hb5.mono HAB.out.size))
  have O5 := Kept.mk ho5
  clear CH ho5 hb5 n0 n1 n2 HR
  go_wp2
  go_loopw [6, 8] (fun v6 v8 wx => ∃ (k : Nat) (I : ByteArray), v6 = .string I ∧ v8 = .int .i64 (k : Int) ∧ k ≤ L.length ∧ Kept (I.data.toList = (L.take k).flatMap (Ppr.prN l)) ∧ Kept (Below w5.heap.size w5 wx)) (fun _ v8 _ => L.length - (intOf v8).toNat)
  case atStart => exact ⟨0, ⟨#[]⟩, rfl, rfl, by omega, ⟨by simp⟩, ⟨Below.refl _ _⟩⟩
  case round =>
    obtain ⟨k, I, rfl, rfl, hk2, HII, HB⟩ := hrel
    have k0 : (0 : Int) ≤ (k : Int) := by omega
    by_cases hlt : k < L.length
    · have k1 : (k : Int) < (L.length : Int) := by omega
      obtain ⟨j, hj⟩ : ∃ j, L[k]? = some j := ⟨_, List.getElem?_eq_getElem hlt⟩
      have hO := Flt.own_below O5.out HB.out
      obtain ⟨g5, c5', e5, _⟩ := Flt.own_block hO (by omega)
      cases e5
      have hc := Flt.own_at hO k (.int .i64 (j : Int)) (by unfold icP; rw [List.getElem?_map, hj]; rfl)
      obtain ⟨j1, j2⟩ := HLM.out j (List.mem_of_getElem? hj)
      have htk : (L.take (k + 1)).flatMap (Ppr.prN l) = (L.take k).flatMap (Ppr.prN l) ++ Ppr.prN l j := by
        rw [List.take_add_one, hj]
        simp
      have hln := HI.out (k + 1)
      rw [htk, List.length_append, ← HII.out, size_len] at hln
      have HTK := Kept.mk htk
      have CN := Kept.mk (HN.out j j1 j2 wr (R5.out.below HB.out))
      have hzI := HLZ.out
      clear hO htk hj
      go_wp2_with (go_at_call 25; refine CN.out.mono ?_; rintro e w6 ⟨D, rfl, hD, hb6⟩; have HD := Kept.mk hD; have hDz := catN D _ hD; have B6 := Kept.mk (HB.out.trans (hb6.mono HB.out.size)); have zz : ¬ 9223372036854775807 < I.size + D.size := (by omega); clear hD hDz hb6)
      go_roundw
      case rel => exact ⟨k + 1, I ++ D, rfl, by go_num, by omega, ⟨by rw [catP, HTK.out, HII.out, HD.out]⟩, B6⟩
      case measure => simp [intOf]; omega
    · obtain rfl : k = L.length := by omega
      rw [List.take_of_length_le (Nat.le_refl _)] at HII
      have m0 := cell_keep HB.out m0
      have m1 := cell_keep HB.out m1

      go_wp2
      go_ret
      exact ⟨_, rfl, by rw [HII.out, HL.out], B5.out.trans (HB.out.mono B5.out.size)⟩
set_option maxRecDepth 100000 in
set_option maxHeartbeats 4000000 in
theorem ref_elem (A : Option Addr) (l : List Ptr.Nd) (c i : Nat) (root : Bool) (hA : Ptr.allB l root l.length = true) (hi : i < l.length) (hz : Ppr.wt l 0 l.length ≤ 1000000000) (hk : Ptr.kin l i = 2) (hl : l.length ≤ 100000) (hN : ∀ j, i < j → j < l.length → RefOk A l c j) : RefOk A l c i := by
  intro w hr
  have hz := Nat.le_trans (Ppr.pr_wt hA hi) hz
  obtain ⟨g, off, rfl, c0, c1, c2, c3⟩ := hr.at_ hi
  simp only at c0 c1 c2 c3
  rw [hk] at c0
  have hprt : Ppr.prN l i = 60 :: Ptr.nam l i ++ (List.range' (i + 1) (Ppr.runN l i - (i + 1))).flatMap (fun j => 32 :: Ppr.prN l j) ++ (if Ppr.childs l i = [] then [47, 62] else 62 :: ((Ppr.childs l i).flatMap (Ppr.prN l) ++ ([60, 47] ++ Ptr.nam l i ++ [62]))) := by rw [Ppr.prN_at (Ppr.tree_rng hA) hi]; simp [hk]
  have i0 : (0 : Int) ≤ (i : Int) := by omega
  have i1 : (i : Int) < (l.length : Int) := by omega
  obtain ⟨nm, hnm⟩ : ∃ nm : ByteArray, nm = ⟨(Ptr.nam l i).toArray⟩ := ⟨_, rfl⟩
  obtain ⟨vl, hvl⟩ : ∃ vl : ByteArray, vl = ⟨(Ptr.val l i).toArray⟩ := ⟨_, rfl⟩
  rw [← hnm] at c1
  rw [← hvl] at c2
  have hn2 : nm.data.toList = Ptr.nam l i := by rw [hnm]
  have hv2 : vl.data.toList = Ptr.val l i := by rw [hvl]
  rw [hprt] at hz ⊢
  rw [← hn2] at hz ⊢
  have hnz := size_len nm
  have hvz := size_len vl
  obtain ⟨P, hP⟩ : ∃ P : Int, P = Ptr.par l i := ⟨_, rfl⟩
  rw [← hP] at c3
  have hab := (Below.refl w.heap.size w).alloc (Nat.le_refl _) (.cells #[.int .u8 2, .string nm, .string vl, .int .i64 P] 37)
  have hal := heap_alloc_new w (.cells #[.int .u8 2, .string nm, .string vl, .int .i64 P] 37)
  have HAB := Kept.mk hab
  have HR := Kept.mk (hr.below hab)
  clear hr hnm hvl hprt hab hn2 hv2 hP
  obtain ⟨R1, R2, R3, R4⟩ := Ppr.runN_spec l i hi
  have HAA := Kept.mk hA
  have R3 := Kept.mk R3
  have R4 := Kept.mk R4
  generalize Ppr.runN l i = R at R1 R2 R3 R4 hz ⊢
  obtain ⟨T, hT⟩ : ∃ T, T = 60 :: nm.data.toList ++ (List.range' (i + 1) (R - (i + 1))).flatMap (fun j => 32 :: Ppr.prN l j) ++ (if Ppr.childs l i = [] then [47, 62] else 62 :: ((Ppr.childs l i).flatMap (Ppr.prN l) ++ ([60, 47] ++ nm.data.toList ++ [62]))) := ⟨_, rfl⟩
  rw [← hT]
  have HT := Kept.mk hT
  have HZZ := Kept.mk hz
  clear hT hz
  go_enter Tryd.func25, Tryd.ntmps25
  go_upto_region 3 with (fail)
  obtain ⟨q, hq⟩ : ∃ q, q = w.heap.size := ⟨_, rfl⟩
  rw [← hq] at hal ⊢
  generalize w.alloc (.cells #[.int .u8 2, .string nm, .string vl, .int .i64 P] 37) = W1 at HR HAB hal ⊢
  have n0 : W1.cell? ⟨q, 0, none⟩ = some (.int .u8 2) := by rw [cell_of_row W1 q _ _ _ _ hal]; rfl
  have n1 : W1.cell? ⟨q, 1, none⟩ = some (.string nm) := by rw [cell_of_row W1 q _ _ _ _ hal]; rfl
  have n2 : W1.cell? ⟨q, 2, none⟩ = some (.string vl) := by rw [cell_of_row W1 q _ _ _ _ hal]; rfl
  clear hal hq c0 c1 c2 c3
  have CH := Kept.mk (children_any (some ⟨g, off, none⟩) l c i root hA W1 HR.out hi hl)
  obtain ⟨L, hL⟩ : ∃ L, Ppr.childs l i = L := ⟨_, rfl⟩
  have hLm : ∀ j ∈ L, i < j ∧ j < l.length := fun j hj => by rw [← hL] at hj; exact Ppr.childs_mem (Ppr.tree_rng hA) hj
  have hLl : L.length ≤ 100000 := by
    have := Ptr.kidsL_le l i false 0 l.length
    rw [← hL]
    unfold Ppr.childs
    omega
  rw [hL] at CH
  have HL := Kept.mk hL
  have HLZ : Kept ((L.flatMap (Ppr.prN l)).length ≤ 1000000000) := ⟨by
    have h := HZZ.out
    rw [hL] at h
    by_cases hn : L = []
    · rw [hn]; simp
    · rw [if_neg hn] at h
      simp only [List.length_append, List.length_cons, List.length_nil] at h
      omega⟩
  have HLM := Kept.mk hLm
  have HN := Kept.mk hN
  have HI : Kept (∀ k, ((L.take k).flatMap (Ppr.prN l)).length ≤ (L.flatMap (Ppr.prN l)).length) := ⟨fun k => by
    have e : L.flatMap (Ppr.prN l) = (L.take k).flatMap (Ppr.prN l) ++ (L.drop k).flatMap (Ppr.prN l) := by rw [← List.flatMap_append, List.take_append_drop]
    rw [e, List.length_append]; omega⟩
  clear hL hLm hN
  go_wp2_with (fail)
  refine CH.out.mono ?_; rintro e w5 ⟨v5, rfl, ho5, hb5⟩
  obtain ⟨A5, c5, rfl, _⟩ := Flt.own_slice ho5
  have m0 := cell_keep hb5 n0
  have m1 := cell_keep hb5 n1
  have R5 := Kept.mk (HR.out.below hb5)
  have B5 := Kept.mk (HAB.out.trans (hb5.mono HAB.out.size))
  have O5 := Kept.mk ho5
  clear CH ho5 hb5 n0 n1 n2 HR
  go_wp2
  go_loopw [6, 8] (fun v6 v8 wx => ∃ (k : Nat) (I : ByteArray), v6 = .string I ∧ v8 = .int .i64 (k : Int) ∧ k ≤ L.length ∧ Kept (I.data.toList = (L.take k).flatMap (Ppr.prN l)) ∧ Kept (Below w5.heap.size w5 wx)) (fun _ v8 _ => L.length - (intOf v8).toNat)
  case atStart => exact ⟨0, ⟨#[]⟩, rfl, rfl, by omega, ⟨by simp⟩, ⟨Below.refl _ _⟩⟩
  case round =>
    obtain ⟨k, I, rfl, rfl, hk2, HII, HB⟩ := hrel
    have k0 : (0 : Int) ≤ (k : Int) := by omega
    by_cases hlt : k < L.length
    · have k1 : (k : Int) < (L.length : Int) := by omega
      obtain ⟨j, hj⟩ : ∃ j, L[k]? = some j := ⟨_, List.getElem?_eq_getElem hlt⟩
      have hO := Flt.own_below O5.out HB.out
      obtain ⟨g5, c5', e5, _⟩ := Flt.own_block hO (by omega)
      cases e5
      have hc := Flt.own_at hO k (.int .i64 (j : Int)) (by unfold icP; rw [List.getElem?_map, hj]; rfl)
      obtain ⟨j1, j2⟩ := HLM.out j (List.mem_of_getElem? hj)
      have htk : (L.take (k + 1)).flatMap (Ppr.prN l) = (L.take k).flatMap (Ppr.prN l) ++ Ppr.prN l j := by
        rw [List.take_add_one, hj]
        simp
      have hln := HI.out (k + 1)
      rw [htk, List.length_append, ← HII.out, size_len] at hln
      have HTK := Kept.mk htk
      have CN := Kept.mk (HN.out j j1 j2 wr (R5.out.below HB.out))
      have hzI := HLZ.out
      clear hO htk hj
      go_wp2_with (go_at_call 25; refine CN.out.mono ?_; rintro e w6 ⟨D, rfl, hD, hb6⟩; have HD := Kept.mk hD; have hDz := catN D _ hD; have B6 := Kept.mk (HB.out.trans (hb6.mono HB.out.size)); have zz : ¬ 9223372036854775807 < I.size + D.size := (by omega); clear hD hDz hb6)
      go_roundw
      case rel => exact ⟨k + 1, I ++ D, rfl, by go_num, by omega, ⟨by rw [catP, HTK.out, HII.out, HD.out]⟩, B6⟩
      case measure => simp [intOf]; omega
    · obtain rfl : k = L.length := by omega
      rw [List.take_of_length_le (Nat.le_refl _)] at HII
      have m0 := cell_keep HB.out m0
      have m1 := cell_keep HB.out m1

      have B7 := Kept.mk (B5.out.trans (HB.out.mono B5.out.size))
      have R7 := Kept.mk (R5.out.below HB.out)
      have hwr := next_i (i := i) (by omega)
      have z0 : ¬ 9223372036854775807 < 1 + nm.size := by
        have h := HZZ.out
        simp only [List.length_append, List.length_cons] at h
        omega
      obtain ⟨w7, rfl⟩ : ∃ w7 : World, w7 = wr := ⟨_, rfl⟩
      clear HB R5 B5 O5
      go_wp2
      go_loopw [9, 10] (fun v9 v10 wx => ∃ (k : Nat) (S : ByteArray), v9 = .string S ∧ v10 = .int .i64 (k : Int) ∧ i + 1 ≤ k ∧ k ≤ R ∧ Kept (S.data.toList = 60 :: nm.data.toList ++ (List.range' (i + 1) (k - (i + 1))).flatMap (fun j => 32 :: Ppr.prN l j)) ∧ Kept (Below w7.heap.size w7 wx)) (fun _ v10 _ => l.length - (intOf v10).toNat)
      case atStart => exact ⟨i + 1, _, rfl, by simp, by omega, by omega, ⟨by simp⟩, ⟨Below.refl _ _⟩⟩
      case round =>
        obtain ⟨k, S, rfl, rfl, hk1, hk3, HS, HB⟩ := hrel
        have k0 : (0 : Int) ≤ (k : Int) := by omega
        have hsS := catN S _ HS.out
        simp only [List.length_append, List.length_cons] at hsS
        have HSS := Kept.mk hsS
        clear hsS
        by_cases hlt : k < R
        · have hkl : k < l.length := by omega
          have k1 : (k : Int) < (l.length : Int) := by omega
          obtain ⟨g', off', eA, d0, _, _, d3⟩ := (R7.out.below HB.out).at_ hkl
          cases eA
          simp only at d0 d3
          obtain ⟨e3, ep⟩ := R3.out k (by omega) hlt
          rw [e3] at d0
          rw [ep] at d3
          have hwk : IntKind.i64.wrap ((k : Int) + 1) = (k : Int) + 1 := by rw [IntKind.wrap_i64]; omega
          have hstep : (List.range' (i + 1) (k + 1 - (i + 1))).flatMap (fun j => 32 :: Ppr.prN l j) = (List.range' (i + 1) (k - (i + 1))).flatMap (fun j => 32 :: Ppr.prN l j) ++ 32 :: Ppr.prN l k := by
            rw [show k + 1 - (i + 1) = (k - (i + 1)) + 1 by omega, List.range'_concat, List.flatMap_append, show i + 1 + 1 * (k - (i + 1)) = k by omega]
            simp
          have hsz : S.size + 1 + (Ppr.prN l k).length ≤ 1000000000 := by
            have hsS := HSS.out
            have h := HZZ.out
            have hs2 : (List.range' (i + 1) (R - (i + 1))).flatMap (fun j => 32 :: Ppr.prN l j) = (List.range' (i + 1) (k + 1 - (i + 1))).flatMap (fun j => 32 :: Ppr.prN l j) ++ (List.range' (k + 1) (R - (k + 1))).flatMap (fun j => 32 :: Ppr.prN l j) := by
              rw [← List.flatMap_append, show R - (i + 1) = (k + 1 - (i + 1)) + (R - (k + 1)) by omega, ← List.range'_append_1, show i + 1 + (k + 1 - (i + 1)) = k + 1 by omega]
            rw [hs2, hstep] at h
            simp only [List.length_append, List.length_cons] at h
            omega
          have HST := Kept.mk hstep
          have CN := Kept.mk (HN.out k (by omega) hkl wr (R7.out.below HB.out))
          have z1 : ¬ 9223372036854775807 < S.size + 1 := by omega
          clear hstep e3 ep
          go_wp2_with (go_at_call 25; refine CN.out.mono ?_; rintro e w8 ⟨D, rfl, hD, hb8⟩; have HD := Kept.mk hD; have hDz := catN D _ hD; have B8 := Kept.mk (HB.out.trans (hb8.mono HB.out.size)); have zz : ¬ 9223372036854775807 < S.size + 1 + D.size := (by omega); clear hD hDz hb8)
          go_roundw
          case rel => exact ⟨k + 1, _, rfl, by go_num, by omega, by omega, ⟨by rw [HST.out, catP, catP, HS.out, HD.out]; simp⟩, B8⟩
          case measure => simp [intOf]; omega
        · obtain rfl : k = R := by omega
          have q1 := cell_keep HB.out m1
          have HBW := Kept.mk (B7.out.trans (HB.out.mono B7.out.size))
          have hzz := HZZ.out
          rw [HL.out] at hzz
          simp only [List.length_append, List.length_cons] at hzz
          have hIz := catN I _ HII.out
          have HZ9 := Kept.mk hzz
          have HIZ := Kept.mk hIz
          clear hzz hIz
          by_cases hkl : k < l.length
          · have k1 : (k : Int) < (l.length : Int) := by omega
            obtain ⟨g', off', eA, d0, _, _, d3⟩ := (R7.out.below HB.out).at_ hkl
            cases eA
            simp only at d0 d3
            by_cases h3 : Ptr.kin l k = 3
            · have hp : ¬ Ptr.par l k = i := fun e => R4.out hkl ⟨h3, e⟩
              have hpb : (Ptr.par l k == (i : Int)) = false := by simpa using hp
              rw [h3] at d0
              by_cases hLe : L = []
              · subst hLe
                have z1 : ¬ 9223372036854775807 < S.size + 2 := by have h1 := HSS.out; have h2 := HZ9.out; omega
                go_wp2
                go_ret
                exact ⟨_, rfl, by rw [HT.out, HL.out, if_pos rfl, catP, HS.out], HBW.out⟩
              · have hp0 := List.length_pos_iff.2 hLe
                have hLb : ((L.length : Int) == 0) = false := by simp; omega
                have hLc : ¬ (L.length : Int) = 0 := by omega
                have hz4 := HZ9.out
                rw [if_neg hLe] at hz4
                simp only [List.length_append, List.length_cons, List.length_nil] at hz4
                have hs1 := HSS.out
                have hs2 := HIZ.out
                have HLE := Kept.mk hLe
                have z1 : ¬ 9223372036854775807 < S.size + 1 := by omega
                have z2 : ¬ 9223372036854775807 < S.size + 1 + I.size := by omega
                have z3 : ¬ 9223372036854775807 < S.size + 1 + I.size + 2 := by omega
                have z4 : ¬ 9223372036854775807 < S.size + 1 + I.size + 2 + nm.size := by omega
                have z5 : ¬ 9223372036854775807 < S.size + 1 + I.size + 2 + nm.size + 1 := by omega
                clear hz4 hLe hs1 hs2
                go_wp2
                go_ret
                exact ⟨_, rfl, by rw [HT.out, HL.out, if_neg HLE.out, catP, catP, catP, catP, catP, HS.out, HII.out]; simp, HBW.out⟩
            have h3b : ((Ptr.kin l k : Int) == 3) = false := by simp; omega
            have h3c : ¬ (Ptr.kin l k : Int) = 3 := by omega
            by_cases hLe : L = []
            · subst hLe
              have z1 : ¬ 9223372036854775807 < S.size + 2 := by have h1 := HSS.out; have h2 := HZ9.out; omega
              go_wp2
              go_ret
              exact ⟨_, rfl, by rw [HT.out, HL.out, if_pos rfl, catP, HS.out], HBW.out⟩
            · have hp0 := List.length_pos_iff.2 hLe
              have hLb : ((L.length : Int) == 0) = false := by simp; omega
              have hLc : ¬ (L.length : Int) = 0 := by omega
              have hz4 := HZ9.out
              rw [if_neg hLe] at hz4
              simp only [List.length_append, List.length_cons, List.length_nil] at hz4
              have hs1 := HSS.out
              have hs2 := HIZ.out
              have HLE := Kept.mk hLe
              have z1 : ¬ 9223372036854775807 < S.size + 1 := by omega
              have z2 : ¬ 9223372036854775807 < S.size + 1 + I.size := by omega
              have z3 : ¬ 9223372036854775807 < S.size + 1 + I.size + 2 := by omega
              have z4 : ¬ 9223372036854775807 < S.size + 1 + I.size + 2 + nm.size := by omega
              have z5 : ¬ 9223372036854775807 < S.size + 1 + I.size + 2 + nm.size + 1 := by omega
              clear hz4 hLe hs1 hs2
              go_wp2
              go_ret
              exact ⟨_, rfl, by rw [HT.out, HL.out, if_neg HLE.out, catP, catP, catP, catP, catP, HS.out, HII.out]; simp, HBW.out⟩
          have k1 : ¬ (k : Int) < (l.length : Int) := by omega
          by_cases hLe : L = []
          · subst hLe
            have z1 : ¬ 9223372036854775807 < S.size + 2 := by have h1 := HSS.out; have h2 := HZ9.out; omega
            go_wp2
            go_ret
            exact ⟨_, rfl, by rw [HT.out, HL.out, if_pos rfl, catP, HS.out], HBW.out⟩
          · have hp0 := List.length_pos_iff.2 hLe
            have hLb : ((L.length : Int) == 0) = false := by simp; omega
            have hLc : ¬ (L.length : Int) = 0 := by omega
            have hz4 := HZ9.out
            rw [if_neg hLe] at hz4
            simp only [List.length_append, List.length_cons, List.length_nil] at hz4
            have hs1 := HSS.out
            have hs2 := HIZ.out
            have HLE := Kept.mk hLe
            have z1 : ¬ 9223372036854775807 < S.size + 1 := by omega
            have z2 : ¬ 9223372036854775807 < S.size + 1 + I.size := by omega
            have z3 : ¬ 9223372036854775807 < S.size + 1 + I.size + 2 := by omega
            have z4 : ¬ 9223372036854775807 < S.size + 1 + I.size + 2 + nm.size := by omega
            have z5 : ¬ 9223372036854775807 < S.size + 1 + I.size + 2 + nm.size + 1 := by omega
            clear hz4 hLe hs1 hs2
            go_wp2
            go_ret
            exact ⟨_, rfl, by rw [HT.out, HL.out, if_neg HLE.out, catP, catP, catP, catP, catP, HS.out, HII.out]; simp, HBW.out⟩
end Go.Proofs.YtkjodleggfacbaaDoor.Wpr
