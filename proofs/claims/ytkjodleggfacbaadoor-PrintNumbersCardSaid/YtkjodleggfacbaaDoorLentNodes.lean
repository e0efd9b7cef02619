/- The walk over the kit's markNode; two nodes are compared. The walks over the kit's LentNodes, KeptNodes. -/
import Derived.Test.YtkjodleggfacbaaDoorFlatMark
import Derived.Test.YtkjodleggfacbaaDoorNodeKit
import Derived.Lib.SmallJoins
import Derived.WalkSmall
import Derived.Laws.StructEq
import Derived.Test.YtkjodleggfacbaaDoorBeh
import Derived.Deep.DeepAppendRoom
import Derived.OwnWalk
import Derived.Maps.AppendAt
import Derived.Laws.AppendOwnNone
namespace Go.Proofs.YtkjodleggfacbaaDoor.Flt
open Go Go.RowKit Go.Proofs.YtkjodleggfacbaaDoor.Kb

theorem markNodes_any (k i : Int) (w : World) (hk0 : 0 ≤ k) (hk : k ≤ 1000) (hi0 : 0 ≤ i) (hi : i ≤ 1000000) :
    Calls Tryd.prog 19 #[.int .i64 k, .int .i64 i] w fun e w' => e = .returned (.agg #[.int .u8 0, .string ⟨#[]⟩, .string ⟨#[]⟩, .int .i64 (mkI k i)]) ∧ Below w.heap.size w w' := by
  go_enter Tryd.func19, Tryd.ntmps19
  go_wp2_with (fail)
  refine (mark_any _ _ _ hk0 hk hi0 hi).mono ?_; rintro e w' ⟨rfl, rfl⟩
  go_wp2_with (fail)
  refine bodyPost_ret (v := .agg #[.int .u8 0, .string ⟨#[]⟩, .string ⟨#[]⟩, .int .i64 (mkI k i)]) (by simp [results, Tryd.results19, go_sem]) rfl ⟨rfl, ?_⟩
  exact (Below.refl _ _).alloc (Nat.le_refl _) _
theorem eqgM_Nodes : Tryd.prog.eqGuardType Tryd.prog.depth 37 = false := by kernel_rfl
/-- two nodes are alike -/
theorem eql_node (k : Int) (s t : ByteArray) (p : Int) (w : World) : (binOp .eql 37 (.agg #[.int .u8 k, .string s, .string t, .int .i64 p]) (.agg #[.int .u8 k, .string s, .string t, .int .i64 p])).run Tryd.prog w = .ok (.bool true) w := by
  have u0 := Tryd.underlying35
  have u1 := Tryd.underlying9
  have u3 := Tryd.underlying3
  have a0 := Tryd.isAgg35
  have a1 := Tryd.isAgg9
  have a3 := Tryd.isAgg3
  have hS : Tryd.prog.underlying 37 = some (.struct (Tryd.prog.fieldsOf 37)) := by kernel_rfl
  rw [run_eql_struct, show (10000 : Nat) = 9999 + 1 from rfl, run_equalIn_agg w 9999 37 _ _ hS (by kernel_rfl)]
  simp only [Program.fieldsOf, Tryd.underlying37]
  go_simp
  try simp
end Go.Proofs.YtkjodleggfacbaaDoor.Flt
namespace Go.Proofs.YtkjodleggfacbaaDoor.Wtr
open Go Go.RowKit Go.Proofs.YtkjodleggfacbaaDoor.Kb Go.Proofs.YtkjodleggfacbaaDoor.Flt

def mkN (k i : Nat) : Ptr.Nd := (0, [], [], mkI k i)
/-- so many marks -/
def marksN (k n : Nat) : List Ptr.Nd := (List.range n).map (mkN k)
theorem marksN_succ (k n : Nat) : marksN k (n + 1) = marksN k n ++ [mkN k n] := by simp [marksN, List.range_succ]
theorem marksN_len (k n : Nat) : (marksN k n).length = n := by simp [marksN]
set_option maxRecDepth 100000 in
/-- 'm...' behind a row of the call's own that has room -/
theorem wpList_append_room_nodes {ops : Array Oper} {rest : List Oper} {o : Oper} {a : Act} {Q : Exit → Act → World → Prop} {w : World} (hgd : o.guard = none) (s x : Operand)
    (ho : o.op = .call { callee := .builtin .append, args := #[s, x], argTypes := #[22, 22] }) (base g n cap : Nat) (xs : List Value) (hs : a.eval s = .slice (some ⟨g, 0, none⟩) n cap)
    (hown : w.ownsRow base 37 4 (.slice (some ⟨g, 0, none⟩) n cap) n xs) (A : Option Addr) (c : Nat) (m : List Ptr.Nd) (hx : a.eval x = .slice A m.length c) (hr : RdN w A m) (hc : A = none → c = 0) (hroom : n + m.length ≤ cap)
    (h : ∀ w', w'.ownsRow base 37 4 (.slice (some ⟨g, 0, none⟩) (n + m.length) cap) (n + m.length) (xs ++ ndsC m) → w.grownBy w' (some g) → wpList Tryd.prog ops Q rest (a.put o.dst (.slice (some ⟨g, 0, none⟩) (n + m.length) cap)) w') : wpList Tryd.prog ops Q (o :: rest) a w := by
  obtain ⟨i0, hi, hz0, hz1, hz2⟩ := info_parts infoN
  cases A with
  | none =>
    have hm : m = [] := by
      apply Classical.byContradiction
      intro hne
      obtain ⟨b, off, hA, _⟩ := hr hne
      cases hA
    subst hm
    rw [hc rfl] at hx
    have h' := h w (by simpa [ndsC] using hown) (World.grownBy.refl _ _)
    simp only [List.length_nil, Nat.add_zero] at h'
    exact wpList_append_own_none hgd s x _ ho base _ i0 4 Tryd.underlying22 hi _ _ _ hs hown hx h'
  | some ad =>
    have c2 : ∀ j u, (ndsC m)[j]? = some u → w.cell? (ad.add j) = some u := by
      intro j u hu
      have hj : j < m.length * 4 := by rw [← ndsC_length]; exact (List.getElem?_eq_some_iff.1 hu).1
      obtain ⟨b, off, hA, hcell⟩ := hr (by intro e; subst e; simp at hj)
      injection hA with hA
      subst hA
      have hq : j / 4 < m.length := by omega
      have hx2 := hcell (j / 4) _ (List.getElem?_eq_getElem hq)
      have hg := ndsC_get m (j / 4) _ (j % 4) (List.getElem?_eq_getElem hq) (by omega)
      rw [show j / 4 * 4 + j % 4 = j by omega, hu] at hg
      rw [addr_add]
      obtain ⟨d0, d1, d2, d3⟩ := hx2
      have h4 : j % 4 = 0 ∨ j % 4 = 1 ∨ j % 4 = 2 ∨ j % 4 = 3 := by omega
      rcases h4 with h4 | h4 | h4 | h4
      · rw [h4] at hg
        rw [show off + j = off + j / 4 * 4 by omega, d0]
        exact hg.symm
      · rw [h4] at hg
        rw [show off + j = off + j / 4 * 4 + 1 by omega, d1]
        exact hg.symm
      · rw [h4] at hg
        rw [show off + j = off + j / 4 * 4 + 2 by omega, d2]
        exact hg.symm
      · rw [h4] at hg
        rw [show off + j = off + j / 4 * 4 + 3 by omega, d3]
        exact hg.symm
    exact wpList_append_own_spare _ hgd s x _ ho base _ i0 4 Tryd.underlying22 hi hz1 g n cap xs hs hown ad m.length c (ndsC m) hx (by rw [ndsC_length]) c2 (ndsC_one m) hroom h
theorem grown_low' {w w1 : World} {B g : Nat} {wx : World} (h : Below B w wx) (hg : wx.grownBy w1 (some g)) (hB : B ≤ g) (hs : B ≤ wx.heap.size) : Below B w w1 :=
  Below.grown h hg hs (fun b hb => by cases hb; exact hB)
set_option maxRecDepth 100000 in
set_option maxHeartbeats 2000000 in
theorem lentNodes_any (A : Option Addr) (l : List Ptr.Nd) (c : Nat) (w : World) (hr : RdN w A l) (hc : A = none → c = 0) (hl : l.length ≤ 20000) :
    Calls Tryd.prog 8 #[.slice A l.length c] w fun e w' => e = .returned (.slice (some ⟨w.heap.size, 0, none⟩) l.length (l.length + 12)) ∧ w'.ownsRow w.heap.size 37 4 (.slice (some ⟨w.heap.size, 0, none⟩) (l.length + 12) (l.length + 12)) (l.length + 12) (ndsC (l ++ marksN 1 12)) ∧ Below w.heap.size w w' := by
  obtain ⟨i0', hi, hz0, hz1, hz2⟩ := info_parts infoN
  have HR := Kept.mk hr
  have HC := Kept.mk hc
  clear hr hc
  go_enter Tryd.func8, Tryd.ntmps8
  go_wp2_with (first | (at_make; refine wpList_make_own _ rfl _ _ 22 rfl w.heap.size 37 i0' (.agg #[.int .u8 0, .string ⟨#[]⟩, .string ⟨#[]⟩, .int .i64 0]) 4 Tryd.underlying22 hi hz0 hz1 .i64 .i64 _ (l.length + 12) (by rfl) (by rfl) (by omega) (by rw [hz2]; omega) (by unfold maxLen; omega) (Nat.le_refl _) ?_; intro w1 hown1 hgrow1; have hb1 := below_of_grown hgrow1; have R1 := Kept.mk (HR.out.below hb1); have B1 := Kept.mk hb1; have O1 := Kept.mk hown1; have s1 := hb1.size; clear hb1 hown1 hgrow1) | (at_builtin; refine wpList_append_room_nodes rfl (.tmp 9) (.tmp 10) rfl w.heap.size w.heap.size 0 (l.length + 12) [] (by rfl) O1.out A c l (by rfl) R1.out HC.out (by omega) ?_; intro w2 hown2 hgrow2; rw [Nat.zero_add, List.nil_append] at hown2; have hb2 := grown_low' B1.out hgrow2 (Nat.le_refl _) s1; have O2 := Kept.mk hown2; have B2 := Kept.mk hb2; have s2 := hb2.size; clear hb2 hown2 hgrow2))
  go_loopw [3, 4] (fun v i wx => ∃ k : Nat, k ≤ 12 ∧ i = .int .i64 k ∧ v = .slice (some ⟨w.heap.size, 0, none⟩) (l.length + k) (l.length + 12) ∧ Kept (wx.ownsRow w.heap.size 37 4 (.slice (some ⟨w.heap.size, 0, none⟩) (l.length + k) (l.length + 12)) (l.length + k) (ndsC (l ++ marksN 1 k))) ∧ Kept (Below w.heap.size w wx)) (fun _ i _ => 12 - (intOf i).toNat)
  case atStart => exact ⟨0, by omega, rfl, by simp, ⟨by simpa [marksN] using O2.out⟩, B2⟩
  case round =>
    obtain ⟨k, hk, rfl, rfl, O3, B3⟩ := hrel
    have s3 := B3.out.size
    by_cases hlt : k < 12
    · have i0 : (0 : Int) ≤ (k : Int) := by omega
      have i1 : (k : Int) < 12 := by omega
      go_wp2_with (fail)
      refine (markNodes_any 1 k _ (by omega) (by omega) (by omega) (by omega)).mono ?_; rintro e w4 ⟨rfl, hb4⟩
      have O4 := Kept.mk (own_below O3.out hb4)
      have B4 := Kept.mk (B3.out.trans (hb4.mono s3))
      have s4 : w.heap.size ≤ w4.heap.size := B4.out.size
      clear hb4
      go_wp2_with (at_builtin; refine wpList_append_own_spare _ rfl (.tmp 16) (.tmp 19) 22 rfl w.heap.size 37 i0' 4 Tryd.underlying22 hi hz1 w.heap.size (l.length + k) (l.length + 12) _ (by rfl) (O4.out.alloc _) ⟨w4.heap.size, 0, none⟩ 1 1 (ndC (mkN 1 k)) (by rfl) (by rfl) (World.news_of_block (heap_alloc_new _ _)) (by intro u hu; exact ndsC_one [mkN 1 k] u (by simpa [ndsC] using hu)) (by omega) ?_; intro w5 hown5 hgrow5; have hb5 := grown_low' (B4.out.alloc s4 _) hgrow5 (Nat.le_refl _) (by simp; omega); have O5 := Kept.mk hown5; have B5 := Kept.mk hb5; clear hown5 hgrow5 hb5)
      go_roundw
      case rel => exact ⟨k + 1, by omega, by go_num, rfl, ⟨by rw [marksN_succ, ← List.append_assoc, ndsC_append, show ndsC [mkN 1 k] = ndC (mkN 1 k) by simp [ndsC]]; exact O5.out⟩, B5⟩
      case measure => simp [intOf]; omega
    · obtain rfl : k = 12 := by omega
      have i0 : (0 : Int) ≤ (l.length : Int) := by omega
      go_wp2
      go_ret
      exact ⟨rfl, O3.out, B3.out⟩
theorem rdn_lent {w : World} {base g : Nat} {l : List Ptr.Nd} (h : w.ownsRow base 37 4 (.slice (some ⟨g, 0, none⟩) (l.length + 12) (l.length + 12)) (l.length + 12) (ndsC (l ++ marksN 1 12))) : RdN w (some ⟨g, 0, none⟩) (l ++ marksN 1 12) := by
  have h2 : w.ownsRow base 37 4 (.slice (some ⟨g, 0, none⟩) (l ++ marksN 1 12).length (l.length + 12)) (l ++ marksN 1 12).length (ndsC (l ++ marksN 1 12)) := by
    rw [List.length_append, marksN_len]; exact h
  exact rdn_of_own h2
theorem rdn_left {w : World} {A : Option Addr} {l m : List Ptr.Nd} (h : RdN w A (l ++ m)) : RdN w A l := by
  intro hne
  obtain ⟨b, off, hA, hc⟩ := h (by simp [hne])
  refine ⟨b, off, hA, fun j x hx => hc j x ?_⟩
  rw [List.getElem?_append_left (List.getElem?_eq_some_iff.1 hx).1]
  exact hx
set_option maxRecDepth 100000 in
set_option maxHeartbeats 4000000 in
theorem keptNodes_any (g : Nat) (A : Option Addr) (l : List Ptr.Nd) (c : Nat) (w : World) (hO : RdN w (some ⟨g, 0, none⟩) (l ++ marksN 1 12)) (hr : RdN w A l) (hl : l.length ≤ 20000) :
    Calls Tryd.prog 11 #[.slice (some ⟨g, 0, none⟩) l.length (l.length + 12), .slice A l.length c] w fun e w' => e = .returned (.bool true) ∧ Below w.heap.size w w' := by
  have HO := Kept.mk hO
  have HR := Kept.mk hr
  clear hO hr
  have i0 : (0 : Int) ≤ (l.length : Int) := by omega
  go_enter Tryd.func11, Tryd.ntmps11
  go_wp2
  go_loopw [6] (fun i wx => ∃ k : Nat, k ≤ l.length + 12 ∧ i = .int .i64 k ∧ Below w.heap.size w wx) (fun i _ => l.length + 12 - (intOf i).toNat)
  case atStart => exact ⟨0, by omega, rfl, Below.refl _ _⟩
  case round =>
    obtain ⟨k, hk, rfl, hB⟩ := hrel
    have B3 := Kept.mk hB
    have j0 : (0 : Int) ≤ (k : Int) := by omega
    by_cases hlt12 : k < l.length + 12
    · obtain ⟨c0, c1, c2, c3⟩ := (HO.out.below hB).cells (i := k) (by rw [List.length_append, marksN_len]; omega)
      have x0 := beh_cell c0; have x1 := beh_cell c1; have x2 := beh_cell c2; have x3 := beh_cell c3
      simp only [Nat.zero_add] at x0 x1 x2 x3
      have j2 : (k : Int) < (l.length : Int) + 12 := by omega
      by_cases hlt : k < l.length
      · have j1 : (k : Int) < (l.length : Int) := by omega
        have e1 : decide (l.length ≤ k) = false := by simp; omega
        obtain ⟨b, off, rfl, d0, d1, d2, d3⟩ := (HR.out.below hB).at_ hlt
        have y0 := beh_cell d0; have y1 := beh_cell d1; have y2 := beh_cell d2; have y3 := beh_cell d3
        simp only at y0 y1 y2 y3
        have hget : (l ++ marksN 1 12)[k]? = l[k]? := List.getElem?_append_left hlt
        have hk1 : Ptr.kin (l ++ marksN 1 12) k = Ptr.kin l k := by unfold Ptr.kin; rw [List.getD_eq_getElem?_getD, List.getD_eq_getElem?_getD, hget]
        have hk2 : Ptr.nam (l ++ marksN 1 12) k = Ptr.nam l k := by unfold Ptr.nam; rw [List.getD_eq_getElem?_getD, List.getD_eq_getElem?_getD, hget]
        have hk3 : Ptr.val (l ++ marksN 1 12) k = Ptr.val l k := by unfold Ptr.val; rw [List.getD_eq_getElem?_getD, List.getD_eq_getElem?_getD, hget]
        have hk4 : Ptr.par (l ++ marksN 1 12) k = Ptr.par l k := by unfold Ptr.par; rw [List.getD_eq_getElem?_getD, List.getD_eq_getElem?_getD, hget]
        rw [hk1] at x0
        rw [hk2] at x1
        rw [hk3] at x2
        rw [hk4] at x3
        have hE := eql_node (Ptr.kin l k) ⟨(Ptr.nam l k).toArray⟩ ⟨(Ptr.val l k).toArray⟩ (Ptr.par l k)
        clear c0 c1 c2 c3 d0 d1 d2 d3 hB hget hk1 hk2 hk3 hk4
        go_wp2
        refine wp_region_beh (by kernel_rfl) (by kernel_rfl) ?_
        repeat
          (refine Qw_step (fun K hK => ?_)
           go_simp
           refine hK _ ?_; clear hK K)
        refine Qw_nil ?_
        rintro _ ⟨⟨w5, hb5⟩, rfl⟩
        go_wp2
        go_roundw
        case rel => exact ⟨k + 1, by omega, by go_num, B3.out.trans (hb5.mono B3.out.size)⟩
        case measure => simp [intOf]; omega
      · have e1 : decide (l.length ≤ k) = true := by simp; omega
        have e2 : decide (k < l.length) = false := by simp; omega
        obtain ⟨m, hm⟩ : ∃ m, k = l.length + m := ⟨k - l.length, by omega⟩
        have j3 : (k : Int) - (l.length : Int) = (m : Int) := by omega
        have hget : (l ++ marksN 1 12)[k]? = some (mkN 1 m) := by
          rw [List.getElem?_append_right (by omega), hm, Nat.add_sub_cancel_left]
          unfold marksN
          rw [List.getElem?_map, List.getElem?_range (by omega)]
          rfl
        have hk1 : Ptr.kin (l ++ marksN 1 12) k = 0 := by unfold Ptr.kin; rw [List.getD_eq_getElem?_getD, hget]; rfl
        have hk2 : Ptr.nam (l ++ marksN 1 12) k = [] := by unfold Ptr.nam; rw [List.getD_eq_getElem?_getD, hget]; rfl
        have hk3 : Ptr.val (l ++ marksN 1 12) k = [] := by unfold Ptr.val; rw [List.getD_eq_getElem?_getD, hget]; rfl
        have hk4 : Ptr.par (l ++ marksN 1 12) k = mkI 1 m := by unfold Ptr.par; rw [List.getD_eq_getElem?_getD, hget]; rfl
        rw [hk1] at x0
        rw [hk2] at x1
        rw [hk3] at x2
        rw [hk4] at x3
        have hE : ∀ w, (binOp .eql 37 (.agg #[.int .u8 0, .string ⟨#[]⟩, .string ⟨#[]⟩, .int .i64 (mkI 1 m)]) (.agg #[.int .u8 0, .string ⟨#[]⟩, .string ⟨#[]⟩, .int .i64 (mkI 1 m)])).run Tryd.prog w = .ok (.bool true) w := eql_node 0 ⟨#[]⟩ ⟨#[]⟩ (mkI 1 m)
        have hwr : IntKind.i64.wrap (m : Int) = (m : Int) := by rw [IntKind.wrap_i64]; omega
        have cM := Kept.mk (fun (x : Beh wr) => markNodes_any 1 m x.fin (by omega) (by omega) (by omega) (by omega))
        clear c0 c1 c2 c3 hB hget hk1 hk2 hk3 hk4 hm
        go_wp2
        refine wp_region_beh (by kernel_rfl) (by kernel_rfl) ?_
        repeat
          (refine Qw_step (fun K hK => ?_)
           go_simp
           first
             | (refine hK _ ?_; clear hK K)
             | (apply Exists.intro
                refine ⟨fun _ => ?_, hK _ ?_⟩
                (go_at_call 19; exact Calls.beh_of (cM.out _))
                clear hK K))
        refine Qw_nil ?_
        rintro _ ⟨⟨w5, hb5⟩, rfl⟩
        go_wp2
        go_roundw
        case rel => exact ⟨k + 1, by omega, by go_num, B3.out.trans (hb5.mono B3.out.size)⟩
        case measure => simp [intOf]; omega
    · obtain rfl : k = l.length + 12 := by omega
      clear hB
      go_wp2
      go_ret
      exact ⟨rfl, B3.out⟩
end Go.Proofs.YtkjodleggfacbaaDoor.Wtr
