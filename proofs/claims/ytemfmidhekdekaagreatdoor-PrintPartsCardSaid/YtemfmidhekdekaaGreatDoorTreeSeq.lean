/- The walks over the iterators kids and ancestors, over slices.AppendSeq and slices.Collect (chapter 06). -/
import Derived.RangeFuncBox
import Derived.RangeFuncNested
import Derived.RangeFuncBound
import Derived.RangeFuncCalls
import Derived.RangeFuncLeaves
import Derived.Shelf.Abstract
import Derived.Shelf.RegionOpen
import Derived.WalkKit
import Derived.OwnWalkIn
import Derived.TacticsInMore
import Derived.LoopNIn
import Derived.LoopIn
import Derived.Maps.AppendAt
import Derived.Stop.RegionWithIn
import Derived.Sort.QuietIn
import Derived.Test.YtemfmidhekdekaaGreatDoorTreeGoA
import Derived.Test.YtemfmidhekdekaaGreatDoorPrA
namespace Go.Proofs.YtemfmidhekdekaaGreatDoor.Wtr
open Go Go.RowKit Go.Shelf Go.Proofs.YtemfmidhekdekaaGreatDoor.Kb Go.Proofs.YtemfmidhekdekaaGreatDoor.Flt
attribute [local go_sem] Oper.semAt_some

theorem endF_same (l : List Ptr.Nd) (i : Nat) : ∀ f k, endF l i f k = Ptr.endF l i f k
  | 0, _ => rfl
  | f + 1, k => by unfold endF Ptr.endF; rw [endF_same l i f (k + 1)]
theorem endN_same (l : List Ptr.Nd) (i : Nat) : endN l i = Ptr.endN l i := endF_same l i _ _
theorem abides_drewN {α : Type} {B : Nat} {J : α → World → Prop} {x : α} {w : World} (h : AbidesFrom B J) (hj : J x w) : ∀ n, J x (w.drewN n)
  | 0 => hj
  | n + 1 => h x (w.drewN n) (w.drewN n).drew none (abides_drewN h hj n) ⟨rfl, rfl, rfl, Nat.le_refl _, fun _ _ _ => rfl⟩ (fun r e => by cases e)
theorem own_low {w : World} {base base' n k : Nat} {e : TypeId} {v : Value} {xs : List Value} (h : w.ownsRow base e k v n xs) (hb : base' ≤ base) : w.ownsRow base' e k v n xs := by
  refine ⟨h.1, ?_⟩
  rcases h.2 with h0 | ⟨g, cap, cur, hv, h1, hh⟩
  · exact .inl h0
  · exact .inr ⟨g, cap, cur, hv, Nat.le_trans hb h1, hh⟩
/-- what a round has left, one way -/
def YPost (J Jx : List Nat → World → Prop) (B : Nat) (pre : List Nat) (x : Nat) (W1 : World) (e : Ending) (W' : World) : Prop :=
  ∃ b : Bool, e = .returned (.bool b) ∧ Kept ((b = true ∧ J (pre ++ [x]) W' ∧ Below B W1 W') ∨ (b = false ∧ Jx (pre ++ [x]) W'))
theorem yPost_of {J Jx : List Nat → World → Prop} {B : Nat} {pre : List Nat} {x : Nat} {W1 W' : World} {e : Ending}
    (h : (e = .returned (.bool true) ∧ J (pre ++ [x]) W' ∧ Below B W1 W') ∨ (e = .returned (.bool false) ∧ Jx (pre ++ [x]) W')) : YPost J Jx B pre x W1 e W' := by
  rcases h with ⟨rfl, h1, h2⟩ | ⟨rfl, h1⟩
  · exact ⟨true, rfl, ⟨.inl ⟨rfl, h1, h2⟩⟩⟩
  · exact ⟨false, rfl, ⟨.inr ⟨rfl, h1⟩⟩⟩
abbrev encI (x : Nat) : Array Value := #[.int .i64 (x : Int)]
set_option maxRecDepth 100000 in
set_option maxHeartbeats 2000000 in
/-- slices.AppendSeq(nil, seq), for whatever iterator that keeps what lay -/
theorem appendSeq_in (F : Fence) (n : Nat) (hA : F.fn 49) (hro : F.round = none) (hn : 3 ≤ n) (g : Nat) (lb : Array Value) (hFg : F.fn g) (eg : ∀ args w, (callFunc g args).run Tryz.prog w = .ok (.enter g args) w)
    (S Sp : List Nat → Prop) (N : Nat) (hN : N ≤ 1000000) (w : World) (hseq : SeqStopsK F (n - 1) Tryz.prog g lb encI (Below w.heap.size) S Sp N w) :
    CallsIn F n Tryz.prog 49 #[.slice none 0 0, .func (.func g) #[] lb] w fun e W' => ∃ (v : Value) (xs : List Nat), e = .returned v ∧ S xs ∧ W'.ownsRow w.heap.size 3 1 v xs.length (ic xs) ∧ Below w.heap.size w W' := by
  have h1 : 1 ≤ n := by omega
  obtain ⟨i0, hi, hz0, hz1, hz2⟩ := info_parts infoI'
  refine callsIn_of_wp_marks Tryz.func49 rfl hA ?_ hro
  simp only [Tryz.ntmps49, List.size_toArray, List.length_cons, List.length_nil, Nat.reduceAdd, Nat.reduceSub, Array.replicate_succ, Array.replicate_zero, List.push_toArray, List.append_toArray, List.nil_append, List.cons_append]
  gi_wp2
  have bO := Boxed.new w 39 (.slice none 0 0)
  have hB0 : Below w.heap.size w (w.alloc (.cells #[.slice none 0 0] 39)) := (Below.refl _ w).alloc (Nat.le_refl _) _
  refine wpIn_rangeFunc_ownG hro h1 (gf := g) (lb := lb) rfl hFg eg hseq belowK_t (belowK_b (by simp)) hB0 (fun _ => rfl)
    (fun pre W => (∃ v, Boxed W w.heap.size 39 v ∧ W.ownsRow w.heap.size 3 1 v pre.length (ic pre) ∧ True) ∧ Below w.heap.size w W)
    (fun _ _ _ => False)
    (OwnFrom.and (Own.from (holdsRow_own w.heap.size w.heap.size 39 3 1 (fun pre => pre.length) (fun pre => ic pre) (fun _ _ => True)) _) (ownFrom_below (Nat.le_refl _) (by simp)))
    (fun _ _ _ _ _ hs _ _ => hs)
    ⟨⟨_, bO, World.ownsRow_nil _ _ _ _, trivial⟩, hB0⟩
    (fun x => { tmps := #[.slice none 0 0, .func (.func g) #[] lb, .pointer (some ⟨w.heap.size, 0, none⟩), undef, .slice none 0 0, .int .i64 (x : Int), .func (.func g) #[] lb, .int .i64 (x : Int), undef, undef, undef, undef, undef], defers := [] }) ?assign ?body ?done ?stop
  case assign =>
    intro l x W K hK
    gi_wp2
    exact hK
  case body =>
    rintro l pre x W ⟨⟨v, hv, hrow, _⟩, hB⟩ hlt
    have hc := hv.cell
    gi_wp2_with (gi_at_builtin; refine wpListIn_append_own _ rfl _ _ 39 rfl w.heap.size 3 i0 (.int .i64 0) 1 8 Tryz.underlying39 hi hz0 hz1 hz2 rfl (by decide) _ _ _ rfl (hrow.alloc _) ⟨W.heap.size, 0, none⟩ 1 1 [.int .i64 (x : Int)] rfl rfl (cell_one_new _ _ _) (by simp [Value.oneCell']) (by unfold maxLen; omega) (by omega) (by have := hB.size; simp; omega) ?_; intro v' w1 hown' hgrow _; obtain ⟨g', cap', rfl⟩ := ownsRow_succ hown'; obtain ⟨hv1, hv2, hr2, hk2, hb2⟩ := hv.appended (by decide) hrow hB.size (Nat.le_refl _) hown' hgrow; have hc1 := hv1.cell; have hf1 := hv1.frozen)
    exact ⟨hk2.from _, hb2, ⟨_, hv2, by rw [List.length_append, ic_append]; exact hr2, trivial⟩, hB.trans hb2⟩
  case done =>
    rintro D ys W hD hS ⟨⟨v, hv, hrow, _⟩, hB⟩ hK
    have hc := hv.cell
    gi_wp2
    refine ⟨by simp, .inl ⟨_, _, rfl, run_takeDeferred hK, ?_⟩⟩
    exact ⟨_, results_tmp rfl _ _ _, v, ys, rfl, hS, ownsRow_putObj hrow _ hK rfl, hB.trans (belowK_b (w := w) (Nat.le_refl _) W D _ _ (by simp at hD; omega) hK rfl rfl)⟩
  case stop =>
    rintro D c pre W _ _ h _
    exact h.elim
set_option maxRecDepth 100000 in
set_option maxHeartbeats 1000000 in
/-- slices.Collect(seq) -/
theorem collect_in (F : Fence) (n : Nat) (hC : F.fn 32) (hA : F.fn 49) (hro : F.round = none) (hn : 4 ≤ n) (g : Nat) (lb : Array Value) (hFg : F.fn g) (eg : ∀ args w, (callFunc g args).run Tryz.prog w = .ok (.enter g args) w)
    (S Sp : List Nat → Prop) (N : Nat) (hN : N ≤ 1000000) (w : World) (hseq : SeqStopsK F (n - 1 - 1) Tryz.prog g lb encI (Below w.heap.size) S Sp N w) :
    CallsIn F n Tryz.prog 32 #[.func (.func g) #[] lb] w fun e W' => ∃ (v : Value) (xs : List Nat), e = .returned v ∧ S xs ∧ W'.ownsRow w.heap.size 3 1 v xs.length (ic xs) ∧ Below w.heap.size w W' := by
  have h1 : 1 ≤ n := by omega
  refine callsIn_of_wp Tryz.func32 rfl hC ?_ hro
  simp only [Tryz.ntmps32, List.size_toArray, List.length_cons, List.length_nil, Nat.reduceAdd, Nat.reduceSub, Array.replicate_succ, Array.replicate_zero, List.push_toArray, List.append_toArray, List.nil_append, List.cons_append]
  gi_wp2_with (gi_at_call 49; refine (appendSeq_in F (n - 1) hA hro (by omega) g lb hFg eg S Sp N hN _ hseq).mono ?_; rintro e w' ⟨v, xs, rfl, hS, hrow, hb⟩)
  go_ret
  exact ⟨v, xs, rfl, hS, hrow, hb⟩
set_option maxRecDepth 100000 in
set_option maxHeartbeats 2000000 in
/-- the iterator over children, or attributes: for whatever body that keeps what lay -/
theorem kids1_in (n : Nat) (hn : 1 ≤ n) (lp Ba Bt Bb : Nat) (A : Option Addr) (c : Nat) (l : List Ptr.Nd) (q : Nat) (hq : q < l.length) (at' : Bool) (hl : l.length ≤ 100000) (w : World)
    (hr : RdN w A l) (hA : w.cell? ⟨Ba, 0, none⟩ = some (.int .i64 (q : Int))) (hT : w.cell? ⟨Bt, 0, none⟩ = some (.slice A l.length c)) (hB : w.cell? ⟨Bb, 0, none⟩ = some (.bool at')) (J Jx : List Nat → World → Prop)
    (hY : ∀ pre x W, J pre W → pre.length < l.length → YieldAt Fence.wide (n - 1) Tryz.prog lp (encI x) W fun e W' =>
      (e = .returned (.bool true) ∧ J (pre ++ [x]) W' ∧ Below w.heap.size W W') ∨ (e = .returned (.bool false) ∧ Jx (pre ++ [x]) W'))
    (W : World) (hW : Below w.heap.size w W) (hJd : AbidesFrom W.heap.size J) (h0 : J [] W) :
    CallsIn Fence.wide n Tryz.prog 50 #[.func (.yield lp) #[] #[], .pointer (some ⟨Ba, 0, none⟩), .pointer (some ⟨Bt, 0, none⟩), .pointer (some ⟨Bb, 0, none⟩)] W fun e W' => (∃ v, e = .returned v) ∧
      ((∃ ys, ys = Ptr.kidsL l q at' (q + 1) (Ptr.endN l q) ∧ J ys W') ∨ (∃ pre, True ∧ Jx pre W')) := by
  obtain ⟨s1, s2, s3, s4⟩ := Ptr.endN_spec l q hq
  generalize Ptr.endN l q = T at s1 s2 s3 s4 ⊢
  have HR := Kept.mk hr
  have HA := Kept.mk hA
  have HT := Kept.mk hT
  have HB := Kept.mk hB
  have S3 := Kept.mk s3
  have S4 := Kept.mk s4
  have cA := cell_keep hW hA
  clear hr hA hT hB s3 s4
  have q0 : (0 : Int) ≤ (q : Int) := by omega
  refine callsIn_of_wp Tryz.func50 rfl trivial ?_ rfl
  simp only [Tryz.ntmps50, List.size_toArray, List.length_cons, List.length_nil, Nat.reduceAdd, Nat.reduceSub, Array.replicate_succ, Array.replicate_zero, List.push_toArray, List.append_toArray, List.nil_append, List.cons_append]
  gi_wp2
  gi_loopw [5] (fun i wr => ∃ k : Nat, i = .int .i64 (k : Int) ∧ q + 1 ≤ k ∧ k ≤ T ∧ J (Ptr.kidsL l q at' (q + 1) k) wr ∧ Kept (Below w.heap.size w wr)) (fun i _ => T - (intOf i).toNat)
  case atStart => exact ⟨q + 1, by go_num, Nat.le_refl _, by omega, by rw [show Ptr.kidsL l q at' (q + 1) (q + 1) = [] by simp [Ptr.kidsL]]; exact h0, ⟨hW⟩⟩
  case round =>
    obtain ⟨k, rfl, hk1, hk2, hJ, HW⟩ := hrel
    have k0 : (0 : Int) ≤ (k : Int) := by omega
    have cA2 := cell_keep HW.out HA.out
    have cT2 := cell_keep HW.out HT.out
    have cB2 := cell_keep HW.out HB.out
    by_cases hlt : k < T
    · have hp := S3.out k (by omega) hlt
      obtain ⟨b, off, rfl, c0, _, _, c3⟩ := (HR.out.below HW.out).at_ (i := k) (by omega)
      simp only at c0 c3
      have hst := Ptr.kidsL_step l q at' (q + 1) k hk1
      have e3 : (((Ptr.kin l k : Nat) : Int) == 3) = (Ptr.kin l k == 3) := beq_i _ _
      have hlen := Ptr.kidsL_le l q at' (q + 1) k
      have hJ' := fun m => abides_drewN hJd hJ m
      generalize Ptr.par l k = P at c3 hp hst
      generalize Ptr.kin l k = K at c0 e3 hst
      have k1 : (k : Int) < (l.length : Int) := by omega
      have HST := Kept.mk hst
      have HJ := Kept.mk hJ'
      have HL := Kept.mk hlen
      clear hst hJ' hlen hJ
      generalize (K == 3) = Z at e3 HST
      by_cases e : P = (q : Int)
      · have e4 : (P == (q : Int)) = true := by simpa using e
        by_cases e5 : (Z == at') = true
        · gi_wp2
          gi_quiet (fail)
          gi_wp2
          have hB2 := below_drewN HW.out nq
          have hJ2 : J (Ptr.kidsL l q at' (q + 1) k) (wr.drewN nq).drew := HJ.out (nq + 1)
          rw [← World.cell?_drewN (n := nq)] at c0 c3 cA2 cT2 cB2
          generalize wr.drewN nq = wq at c0 c3 cA2 cT2 cB2 hB2 hJ2 ⊢
          obtain ⟨fn, tmps, assign, body, hy, hR⟩ := hY _ k wq.drew hJ2 (by have := HL.out; omega)
          have hR2 := RoundIn.mono (R' := YPost J Jx w.heap.size (Ptr.kidsL l q at' (q + 1) k) k wq.drew) hR (fun e W' h => yPost_of h)
          clear hY hR
          first
            | (gi_region_with (refine hR2.mono ?_; rintro e W3 ⟨bb, rfl, HX⟩))
            | fail
          all_goals
            rcases HX.out with ⟨rfl, hJ3, hb3⟩ | ⟨rfl, hJx3⟩
            · gi_wp2
              go_roundw
              case rel => exact ⟨k + 1, by go_num, by omega, by omega, by rw [HST.out, e5, decide_eq_true e, Bool.and_true, if_pos rfl]; exact hJ3, ⟨hB2.drew.trans hb3⟩⟩
              case measure => simp [intOf]; omega
            · gi_wp2
              refine bodyPost_ret (results_none rfl _ _ _) rfl ?_
              exact ⟨⟨_, rfl⟩, .inr ⟨_, hJx3⟩⟩
        · have e5 : (Z == at') = false := by simpa using e5
          clear hY
          gi_wp2
          gi_quiet (fail)
          gi_wp2
          refine wpIn_region_quiet_lit rfl (by kernel_rfl) (by kernel_rfl) ?_
          repeat (refine wpQuietIn_step (fun _ _ _ _ => trivial) (fun K hK => ?_); go_simp; refine hK _ ?_; clear hK K)
          refine wpQuietIn_nil ?_
          intro _ hw'
          obtain ⟨nq2, hw''⟩ := hw'
          subst hw''
          gi_wp2
          go_roundw
          case rel => exact ⟨k + 1, by go_num, by omega, by omega, by rw [HST.out, e5, Bool.and_false, if_neg (by simp), List.append_nil]; exact HJ.out _, ⟨below_drewN HW.out _⟩⟩
          case measure => simp [intOf]; omega
      · have e4 : (P == (q : Int)) = false := by simpa using e
        clear hY
        gi_wp2
        gi_quiet (fail)
        gi_wp2
        refine wpIn_region_quiet_lit rfl (by kernel_rfl) (by kernel_rfl) ?_
        repeat (refine wpQuietIn_step (fun _ _ _ _ => trivial) (fun K hK => ?_); go_simp; refine hK _ ?_; clear hK K)
        refine wpQuietIn_nil ?_
        intro _ hw'
        obtain ⟨nq2, hw''⟩ := hw'
        subst hw''
        gi_wp2
        go_roundw
        case rel => exact ⟨k + 1, by go_num, by omega, by omega, by rw [HST.out, decide_eq_false e, Bool.false_and, if_neg (by simp), List.append_nil]; exact HJ.out _, ⟨below_drewN HW.out _⟩⟩
        case measure => simp [intOf]; omega
    · obtain rfl : k = T := by omega
      clear hY
      by_cases hkl : k < l.length
      · have hp := S4.out hkl
        obtain ⟨b, off, rfl, _, _, _, c3⟩ := (HR.out.below HW.out).at_ hkl
        simp only at c3
        generalize Ptr.par l k = P at c3 hp
        have k1 : (k : Int) < (l.length : Int) := by omega
        have e4 : decide ((q : Int) ≤ P) = false := by simp; omega
        gi_wp2
        gi_quiet (fail)
        gi_wp2
        go_end0
        exact ⟨⟨_, rfl⟩, .inl ⟨_, rfl, abides_drewN hJd hJ _⟩⟩
      · have e1 : decide ((k : Int) < (l.length : Int)) = false := by simp; omega
        gi_wp2
        refine wpIn_region_quiet_lit rfl (by kernel_rfl) (by kernel_rfl) ?_
        repeat (refine wpQuietIn_step (fun _ _ _ _ => trivial) (fun K hK => ?_); go_simp; refine hK _ ?_; clear hK K)
        refine wpQuietIn_nil ?_
        intro _ hw'
        obtain ⟨nq2, hw''⟩ := hw'
        subst hw''
        gi_wp2
        go_end0
        exact ⟨⟨_, rfl⟩, .inl ⟨_, rfl, abides_drewN hJd hJ _⟩⟩
/-- the iterator over children keeps its word -/
theorem kids_stops (n : Nat) (hn : 1 ≤ n) (Ba Bt Bb : Nat) (A : Option Addr) (c : Nat) (l : List Ptr.Nd) (q : Nat) (hq : q < l.length) (at' : Bool) (hl : l.length ≤ 100000) (w : World)
    (hr : RdN w A l) (hA : w.cell? ⟨Ba, 0, none⟩ = some (.int .i64 (q : Int))) (hT : w.cell? ⟨Bt, 0, none⟩ = some (.slice A l.length c)) (hB : w.cell? ⟨Bb, 0, none⟩ = some (.bool at')) :
    SeqStopsK Fence.wide n Tryz.prog 50 #[.pointer (some ⟨Ba, 0, none⟩), .pointer (some ⟨Bt, 0, none⟩), .pointer (some ⟨Bb, 0, none⟩)] encI (Below w.heap.size) (fun ys => ys = Ptr.kidsL l q at' (q + 1) (Ptr.endN l q)) (fun _ => True) l.length w :=
  fun lp J Jx W hW hJ _ hY h0 => kids1_in n hn lp Ba Bt Bb A c l q hq at' hl w hr hA hT hB J Jx hY W hW hJ h0
set_option maxHeartbeats 1000000 in
theorem kids_any (A : Option Addr) (L c : Nat) (q : Int) (at' : Bool) (w : World) :
    Calls Tryz.prog 33 #[.slice A L c, .int .i64 q, .bool at'] w fun e w' => e = .returned (.func (.func 50) #[] #[.pointer (some ⟨w.heap.size + 1, 0, none⟩), .pointer (some ⟨w.heap.size, 0, none⟩), .pointer (some ⟨w.heap.size + 2, 0, none⟩)]) ∧
      w' = ((w.alloc (.cells #[.slice A L c] 23)).alloc (.cells #[.int .i64 q] 3)).alloc (.cells #[.bool at'] 4) := by
  go_enter Tryz.func33, Tryz.ntmps33
  go_wp2
  go_ret
  exact ⟨rfl, rfl⟩
/-- slices.Collect over the children: the row of their places -/
theorem collect_kids (A : Option Addr) (c : Nat) (l : List Ptr.Nd) (q : Nat) (hq : q < l.length) (at' : Bool) (hl : l.length ≤ 100000) (w : World) (hr : RdN w A l) :
    Calls Tryz.prog 32 #[.func (.func 50) #[] #[.pointer (some ⟨w.heap.size + 1, 0, none⟩), .pointer (some ⟨w.heap.size, 0, none⟩), .pointer (some ⟨w.heap.size + 2, 0, none⟩)]]
      (((w.alloc (.cells #[.slice A l.length c] 23)).alloc (.cells #[.int .i64 (q : Int)] 3)).alloc (.cells #[.bool at'] 4)) fun e w' =>
      ∃ v, e = .returned v ∧ w'.ownsRow w.heap.size 3 1 v (Ptr.kidsL l q at' (q + 1) (Ptr.endN l q)).length (ic (Ptr.kidsL l q at' (q + 1) (Ptr.endN l q))) ∧ Below w.heap.size w w' := by
  have hb1 : Below w.heap.size w (w.alloc (.cells #[.slice A l.length c] 23)) := (Below.refl _ w).alloc (Nat.le_refl _) _
  have hb2 := hb1.alloc hb1.size (.cells #[.int .i64 (q : Int)] 3)
  have hb3 := hb2.alloc hb2.size (.cells #[.bool at'] 4)
  have c0 : (w.alloc (.cells #[.slice A l.length c] 23)).cell? ⟨w.heap.size, 0, none⟩ = some (.slice A l.length c) := by rw [World.cell?_alloc_new]; rfl
  have c1 : ((w.alloc (.cells #[.slice A l.length c] 23)).alloc (.cells #[.int .i64 (q : Int)] 3)).cell? ⟨w.heap.size + 1, 0, none⟩ = some (.int .i64 (q : Int)) := by
    have := World.cell?_alloc_new (w.alloc (.cells #[.slice A l.length c] 23)) #[.int .i64 (q : Int)] 3 0
    rw [World.size_alloc] at this
    exact this
  have c2 : (((w.alloc (.cells #[.slice A l.length c] 23)).alloc (.cells #[.int .i64 (q : Int)] 3)).alloc (.cells #[.bool at'] 4)).cell? ⟨w.heap.size + 2, 0, none⟩ = some (.bool at') := by
    have := World.cell?_alloc_new ((w.alloc (.cells #[.slice A l.length c] 23)).alloc (.cells #[.int .i64 (q : Int)] 3)) #[.bool at'] 4 0
    rw [World.size_alloc, World.size_alloc] at this
    exact this
  have k0 := cell_keep ((Below.refl _ _).alloc (Nat.le_refl _) (.cells #[.bool at'] 4)) (cell_keep ((Below.refl _ _).alloc (Nat.le_refl _) (.cells #[.int .i64 (q : Int)] 3)) c0)
  have k1 := cell_keep ((Below.refl _ _).alloc (Nat.le_refl _) (.cells #[.bool at'] 4)) c1
  refine (callsIn_wide.1 (collect_in Fence.wide 5 trivial trivial rfl (by omega) _ _ trivial (enters_of Tryz.func50 (by kernel_rfl) rfl) _ _ l.length (by omega) _ (kids_stops 3 (by omega) _ _ _ A c l q hq at' hl _ (hr.below hb3) k1 k0 c2))).mono ?_
  rintro e w' ⟨v, xs, rfl, rfl, hO, hb⟩
  exact ⟨v, rfl, own_low hO (by simp; omega), hb3.trans (hb.mono hb3.size)⟩
end Go.Proofs.YtemfmidhekdekaaGreatDoor.Wtr
