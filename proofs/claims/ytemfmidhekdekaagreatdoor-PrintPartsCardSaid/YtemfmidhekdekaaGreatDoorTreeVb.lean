/- The program's check of trees (chapter 06), joined: TreeVb -/
import Derived.Test.YtemfmidhekdekaaGreatDoorTreeVa
namespace Go.Proofs.YtemfmidhekdekaaGreatDoor.Wtr
open Go Go.RowKit Go.Proofs.YtemfmidhekdekaaGreatDoor.Kb

theorem eq_rule2 (w : World) : (binOp .eql 99 (.agg #[.bool true, .bool false, .bool false, .bool true, .bool true, .bool true]) (.agg #[.bool false, .bool false, .bool false, .bool false, .bool false, .bool false])).run Tryz.prog w = .ok (.bool false) w := by kernel_rfl
set_option maxRecDepth 100000 in
set_option maxHeartbeats 8000000 in
theorem pfits_2 (D gl : Nat) (tp : Int) (A : Option Addr) (l : List Ptr.Nd) (c i : Nat) (w : World) (hD0 : w.cell? ⟨D, 0, none⟩ = some (.slice A l.length c)) (hD2 : w.cell? ⟨D, 2, none⟩ = some (.slice (some ⟨gl, 0, none⟩) l.length l.length)) (hD3 : w.cell? ⟨D, 3, none⟩ = some (.int .i64 tp))
    (hBF : if Ptr.par l i < 0 then tp = Ptr.lastC l (Ptr.par l i) i else w.cell? ⟨gl, (Ptr.par l i).toNat, none⟩ = some (.int .i64 (Ptr.lastC l (Ptr.par l i) i)))
    (hr : RdN w A l) (hi : i < l.length) (hP : -1 ≤ Ptr.par l i ∧ Ptr.par l i < i) (_hl : l.length ≤ 100000) (hn : (Ptr.nam l i).length ≤ 9223372036854775807) (hv : (Ptr.val l i).length ≤ 9223372036854775807) (hE : TEnv w) (hk : Ptr.kin l i = 2) :
    Calls Tryz.prog 46 #[.pointer (some ⟨D, 0, none⟩), .int .i64 i] w fun e w' => e = .returned (.bool (Pch.nameL (Ptr.nam l i) && (decide (Ptr.val l i = []) && withinB true true true l (Ptr.par l i)))) ∧ Below w.heap.size w w' := by
  obtain ⟨b, off, rfl, q0, q1, q2, q3⟩ := hr.at_ hi
  have HRD := Kept.mk hr
  have HEV := Kept.mk hE
  have HV := Kept.mk hv
  have HN := Kept.mk hn
  have i0 : (0 : Int) ≤ (i : Int) := by omega
  have i1 : (i : Int) < (l.length : Int) := by omega
  simp only at q0 q1 q2 q3
  rw [hk] at q0
  obtain ⟨V, hV⟩ : ∃ V : ByteArray, V = ⟨(Ptr.val l i).toArray⟩ := ⟨_, rfl⟩
  have hVs : V.size = (Ptr.val l i).length := by rw [hV]; show (Ptr.val l i).toArray.size = _; simp
  have hVl : V.toList = Ptr.val l i := by rw [hV, ByteArray.toList_eq]
  have hVd : V.data.toList = Ptr.val l i := by rw [hV]
  obtain ⟨X, hX⟩ : ∃ X : ByteArray, X = ⟨(Ptr.nam l i).toArray⟩ := ⟨_, rfl⟩
  have hXs : X.size = (Ptr.nam l i).length := by rw [hX]; show (Ptr.nam l i).toArray.size = _; simp
  have hXl : X.toList = Ptr.nam l i := by rw [hX, ByteArray.toList_eq]
  have hXd : X.data.toList = Ptr.nam l i := by rw [hX]
  rw [← hV] at q2
  rw [← hX] at q1
  have r0 : ∀ o, (w.alloc o).cell? ⟨0, 12, none⟩ = some (.bool true) := fun o => rule_cell HEV.out.2.1 12 1 rfl _ (box_below w o)
  have r1 : ∀ o, (w.alloc o).cell? ⟨0, 13, none⟩ = some (.bool false) := fun o => rule_cell HEV.out.2.1 13 0 rfl _ (box_below w o)
  have r2 : ∀ o, (w.alloc o).cell? ⟨0, 14, none⟩ = some (.bool false) := fun o => rule_cell HEV.out.2.1 14 0 rfl _ (box_below w o)
  have r3 : ∀ o, (w.alloc o).cell? ⟨0, 15, none⟩ = some (.bool true) := fun o => rule_cell HEV.out.2.1 15 1 rfl _ (box_below w o)
  have r4 : ∀ o, (w.alloc o).cell? ⟨0, 16, none⟩ = some (.bool true) := fun o => rule_cell HEV.out.2.1 16 1 rfl _ (box_below w o)
  have r5 : ∀ o, (w.alloc o).cell? ⟨0, 17, none⟩ = some (.bool true) := fun o => rule_cell HEV.out.2.1 17 1 rfl _ (box_below w o)
  have d0 : ∀ o p, ((w.alloc o).alloc p).cell? ⟨D, 0, none⟩ = _ := fun o p => cell_keep ((box_below w o).alloc (by simp) p) hD0
  have d2 : ∀ o p, ((w.alloc o).alloc p).cell? ⟨D, 2, none⟩ = _ := fun o p => cell_keep ((box_below w o).alloc (by simp) p) hD2
  have d3 : ∀ o p, ((w.alloc o).alloc p).cell? ⟨D, 3, none⟩ = _ := fun o p => cell_keep ((box_below w o).alloc (by simp) p) hD3
  have hEq := eq_rule2
  obtain ⟨W, hW⟩ : ∃ W, W = (w.alloc (.cells #[.int .u8 2, .string X, .string V, .int .i64 (Ptr.par l i)] 32)).alloc (.cells #[.bool true, .bool false, .bool false, .bool true, .bool true, .bool true] 99) := ⟨_, rfl⟩
  have hWb : Below w.heap.size w W := by rw [hW]; exact (box_below w _).alloc (by simp) _
  have HWB := Kept.mk hWb
  have n0 : W.cell? ⟨w.heap.size, 0, none⟩ = some (.int .u8 2) := by rw [hW]; exact box_at w _ _ _ _ rfl
  have n1 : W.cell? ⟨w.heap.size, 1, none⟩ = some (.string X) := by rw [hW]; exact box_at w _ _ _ _ rfl
  have n2 : W.cell? ⟨w.heap.size, 2, none⟩ = some (.string V) := by rw [hW]; exact box_at w _ _ _ _ rfl
  have n3 : W.cell? ⟨w.heap.size, 3, none⟩ = some (.int .i64 (Ptr.par l i)) := by rw [hW]; exact box_at w _ _ _ _ rfl
  have s0 : W.cell? ⟨w.heap.size + 1, 0, none⟩ = some (.bool true) := by rw [hW]; exact box_at2 w _ _ _ _ rfl
  have s1 : W.cell? ⟨w.heap.size + 1, 1, none⟩ = some (.bool false) := by rw [hW]; exact box_at2 w _ _ _ _ rfl
  have s2 : W.cell? ⟨w.heap.size + 1, 2, none⟩ = some (.bool false) := by rw [hW]; exact box_at2 w _ _ _ _ rfl
  have s3 : W.cell? ⟨w.heap.size + 1, 3, none⟩ = some (.bool true) := by rw [hW]; exact box_at2 w _ _ _ _ rfl
  have s4 : W.cell? ⟨w.heap.size + 1, 4, none⟩ = some (.bool true) := by rw [hW]; exact box_at2 w _ _ _ _ rfl
  have s5 : W.cell? ⟨w.heap.size + 1, 5, none⟩ = some (.bool true) := by rw [hW]; exact box_at2 w _ _ _ _ rfl
  have D0 := cell_keep hWb hD0
  have HD0 := Kept.mk D0; have HD2 := Kept.mk (cell_keep hWb hD2); have HD3 := Kept.mk (cell_keep hWb hD3)
  have HNN := Kept.mk n0; have HN1 := Kept.mk n1; have HN2 := Kept.mk n2; have HN3 := Kept.mk n3
  have HBF := Kept.mk hBF
  have e0 := beh_cell n0
  have e1 := beh_cell n1
  have e2 := beh_cell n2
  have e3 := beh_cell n3
  have f0 := beh_cell s0
  have f1 := beh_cell s1
  have f2 := beh_cell s2
  have f3 := beh_cell s3
  have f4 := beh_cell s4
  have f5 := beh_cell s5
  have g0 := beh_cell D0
  have cN := fun (x : Beh W) => name_call1 X x.fin (by rw [hXs]; exact hn) ((hE.below hWb).below x.ok).1
  have cT := fun (x : Beh W) => text_call1 V x.fin (by rw [hVs]; exact hv) ((hE.below hWb).below x.ok).1
  have cW := fun (x : Beh W) => within_any true false false true true true (some ⟨b, off, none⟩) l c (Ptr.par l i) x.fin ((hr.below hWb).below x.ok) (by omega)
  rw [hXd] at cN
  rw [hVd] at cT
  have hT0 : Ptr.val l i = [] → Pch.textsL (Ptr.val l i) = true := fun e => by rw [e]; rfl
  generalize withinB true true true l (Ptr.par l i) = WB at cW ⊢
  generalize Pch.nameL (Ptr.nam l i) = N at cN ⊢
  generalize hTT : Pch.textsL (Ptr.val l i) = T at cT hT0
  have vE : ∀ z : Bool, decide (Ptr.val l i = []) = z → (if z = true then V.toList = [] else (V.toList == []) = false ∧ V.toList.isEmpty = false) := fun z hz => by
    cases z
    · have h := of_decide_eq_false hz
      rw [← hVl] at h
      exact ⟨by simpa using h, by simpa using h⟩
    · have h := of_decide_eq_true hz
      rw [← hVl] at h
      exact h
  have xE : ∀ z : Bool, decide (Ptr.nam l i = []) = z → (if z = true then X.toList = [] else (X.toList == []) = false ∧ X.toList.isEmpty = false) := fun z hz => by
    cases z
    · have h := of_decide_eq_false hz
      rw [← hXl] at h
      exact ⟨by simpa using h, by simpa using h⟩
    · have h := of_decide_eq_true hz
      rw [← hXl] at h
      exact h
  generalize hz : decide (Ptr.val l i = []) = Z
  have vZ := vE Z hz
  obtain ⟨P, hPQ⟩ : ∃ P, Ptr.par l i = P := ⟨_, rfl⟩
  rw [hPQ] at q3 e3 cW
  have HP := Kept.mk hPQ
  clear hPQ
  have CN := Kept.mk cN
  have CT := Kept.mk cT
  have CW := Kept.mk cW
  have HVS := Kept.mk hVs
  have HVD := Kept.mk hVd
  have HVL := Kept.mk hVl
  have HXD := Kept.mk hXd
  have HXL := Kept.mk hXl
  have HXS := Kept.mk hXs
  have HWW := Kept.mk hW
  have HPP := Kept.mk hP
  have VE := Kept.mk vE
  clear cN cT cW hVs hVd hVl hXd hXl hXs hV hX hW hP hE hr hn hv hk hWb vE xE hBF hD2 hD3
  go_enter Tryz.func46, Tryz.ntmps46
  go_wp2
  rw [← HP.out, ← HWW.out, HP.out]
  cases N with
  | true =>
    cases Z with
    | true =>
      have vz : V.toList = [] := vZ
      clear vZ
      have v0 : V.size = 0 := by rw [HVS.out, of_decide_eq_true hz]; rfl
      have v1 : ¬ (65536 : Int) < (V.size : Int) := by omega
      obtain rfl := hT0 (of_decide_eq_true hz)
      clear hz hT0 hTT v0
      cases WB with
      | true =>
        refine wp_region_beh (by kernel_rfl) (by kernel_rfl) ?_
        repeat
          (refine Qw_step (fun K hK => ?_)
           go_simp
           first
             | (refine hK _ ?_; clear hK K)
             | (apply Exists.intro
                refine ⟨fun _ => ?_, hK _ ?_⟩
                (first | (go_at_call 74; exact Calls.beh_of (CN.out _)) | (go_at_call 75; exact Calls.beh_of (CT.out _)) | (go_at_call 76; exact Calls.beh_of (CW.out _)))
                clear hK K))
        refine Qw_nil ?_
        rintro _ ⟨⟨w5, hb5⟩, rfl⟩
        have hbw := HWB.out.trans (hb5.mono HWB.out.size)
        have m0 := cell_keep hb5 HNN.out; have m1 := cell_keep hb5 HN1.out; have m2 := cell_keep hb5 HN2.out; have m3 := cell_keep hb5 HN3.out; have k0 := cell_keep hb5 HD0.out; have k2 := cell_keep hb5 HD2.out; have k3 := cell_keep hb5 HD3.out
        have hBF := HBF.out
        have hPP := HPP.out
        rw [HP.out] at hBF m3 hPP
        have HB5 := Kept.mk hb5; have HBW := Kept.mk hbw
        clear hbw hb5
        by_cases hp : P < 0
        · rw [if_pos hp] at hBF
          have hBS := hBF.symm
          clear hBF
          subst hBS
          go_wp2
          go_ret
          exact ⟨rfl, HBW.out⟩
        · rw [if_neg hp] at hBF
          have k4 := cell_keep HBW.out hBF
          obtain ⟨p, rfl⟩ : ∃ p : Nat, P = p := ⟨P.toNat, by omega⟩
          rw [Int.toNat_natCast] at k4
          have p0 : (0 : Int) ≤ (p : Int) := by omega
          have p1 : (p : Int) < (l.length : Int) := by omega
          clear hp hBF
          go_wp2
          go_quiet (fail)
          go_wp2
          go_ret
          exact ⟨rfl, below_drewN HBW.out _⟩
      | false =>
        refine wp_region_beh (by kernel_rfl) (by kernel_rfl) ?_
        repeat
          (refine Qw_step (fun K hK => ?_)
           go_simp
           first
             | (refine hK _ ?_; clear hK K)
             | (apply Exists.intro
                refine ⟨fun _ => ?_, hK _ ?_⟩
                (first | (go_at_call 74; exact Calls.beh_of (CN.out _)) | (go_at_call 75; exact Calls.beh_of (CT.out _)) | (go_at_call 76; exact Calls.beh_of (CW.out _)))
                clear hK K))
        refine Qw_nil ?_
        rintro _ ⟨⟨w5, hb5⟩, rfl⟩
        go_wp2
        go_ret
        exact ⟨rfl, HWB.out.trans (hb5.mono HWB.out.size)⟩
    | false =>
      obtain ⟨vz, vz2⟩ : (V.toList == []) = false ∧ V.toList.isEmpty = false := vZ
      clear hz hT0 hTT
      refine wp_region_beh (by kernel_rfl) (by kernel_rfl) ?_
      repeat
        (refine Qw_step (fun K hK => ?_)
         go_simp
         first
           | (refine hK _ ?_; clear hK K)
           | (apply Exists.intro
              refine ⟨fun _ => ?_, hK _ ?_⟩
              (first | (go_at_call 74; exact Calls.beh_of (CN.out _)))
              clear hK K))
      refine Qw_nil ?_
      rintro _ ⟨⟨w5, hb5⟩, rfl⟩
      go_wp2
      go_ret
      exact ⟨rfl, HWB.out.trans (hb5.mono HWB.out.size)⟩
  | false =>
    refine wp_region_beh (by kernel_rfl) (by kernel_rfl) ?_
    repeat
      (refine Qw_step (fun K hK => ?_)
       go_simp
       first
         | (refine hK _ ?_; clear hK K)
         | (apply Exists.intro
            refine ⟨fun _ => ?_, hK _ ?_⟩
            (first | (go_at_call 74; exact Calls.beh_of (CN.out _)))
            clear hK K))
    refine Qw_nil ?_
    rintro _ ⟨⟨w5, hb5⟩, rfl⟩
    go_wp2
    go_ret
    exact ⟨rfl, HWB.out.trans (hb5.mono HWB.out.size)⟩
end Go.Proofs.YtemfmidhekdekaaGreatDoor.Wtr
namespace Go.Proofs.YtemfmidhekdekaaGreatDoor.Wtr
open Go Go.RowKit Go.Proofs.YtemfmidhekdekaaGreatDoor.Kb

theorem eq_rule3 (w : World) : (binOp .eql 99 (.agg #[.bool true, .bool true, .bool false, .bool false, .bool false, .bool true]) (.agg #[.bool false, .bool false, .bool false, .bool false, .bool false, .bool false])).run Tryz.prog w = .ok (.bool false) w := by kernel_rfl
set_option maxRecDepth 100000 in
set_option maxHeartbeats 8000000 in
theorem pfits_3 (D gl : Nat) (tp : Int) (A : Option Addr) (l : List Ptr.Nd) (c i : Nat) (w : World) (hD0 : w.cell? ⟨D, 0, none⟩ = some (.slice A l.length c)) (hD2 : w.cell? ⟨D, 2, none⟩ = some (.slice (some ⟨gl, 0, none⟩) l.length l.length)) (hD3 : w.cell? ⟨D, 3, none⟩ = some (.int .i64 tp))
    (hBF : if Ptr.par l i < 0 then tp = Ptr.lastC l (Ptr.par l i) i else w.cell? ⟨gl, (Ptr.par l i).toNat, none⟩ = some (.int .i64 (Ptr.lastC l (Ptr.par l i) i)))
    (hr : RdN w A l) (hi : i < l.length) (hP : -1 ≤ Ptr.par l i ∧ Ptr.par l i < i) (hl : l.length ≤ 100000) (hn : (Ptr.nam l i).length ≤ 9223372036854775807) (hv : (Ptr.val l i).length ≤ 9223372036854775807) (hE : TEnv w) (hk : Ptr.kin l i = 3) :
    Calls Tryz.prog 46 #[.pointer (some ⟨D, 0, none⟩), .int .i64 i] w fun e w' => e = .returned (.bool (Pch.nameL (Ptr.nam l i) && (decide ((Ptr.val l i).length ≤ 65536) && (Pch.textsL (Ptr.val l i) && (withinB false false true l (Ptr.par l i) && (decide (Ptr.lastC l (Ptr.par l i) i < 0) && freeFrom l (Ptr.nam l i) i ((Ptr.par l i).toNat + 1))))))) ∧ Below w.heap.size w w' := by
  obtain ⟨b, off, rfl, q0, q1, q2, q3⟩ := hr.at_ hi
  have HRD := Kept.mk hr
  have HEV := Kept.mk hE
  have HV := Kept.mk hv
  have HN := Kept.mk hn
  have i0 : (0 : Int) ≤ (i : Int) := by omega
  have i1 : (i : Int) < (l.length : Int) := by omega
  simp only at q0 q1 q2 q3
  rw [hk] at q0
  obtain ⟨V, hV⟩ : ∃ V : ByteArray, V = ⟨(Ptr.val l i).toArray⟩ := ⟨_, rfl⟩
  have hVs : V.size = (Ptr.val l i).length := by rw [hV]; show (Ptr.val l i).toArray.size = _; simp
  have hVl : V.toList = Ptr.val l i := by rw [hV, ByteArray.toList_eq]
  have hVd : V.data.toList = Ptr.val l i := by rw [hV]
  obtain ⟨X, hX⟩ : ∃ X : ByteArray, X = ⟨(Ptr.nam l i).toArray⟩ := ⟨_, rfl⟩
  have hXs : X.size = (Ptr.nam l i).length := by rw [hX]; show (Ptr.nam l i).toArray.size = _; simp
  have hXl : X.toList = Ptr.nam l i := by rw [hX, ByteArray.toList_eq]
  have hXd : X.data.toList = Ptr.nam l i := by rw [hX]
  rw [← hV] at q2
  rw [← hX] at q1
  have r0 : ∀ o, (w.alloc o).cell? ⟨0, 18, none⟩ = some (.bool true) := fun o => rule_cell HEV.out.2.1 18 1 rfl _ (box_below w o)
  have r1 : ∀ o, (w.alloc o).cell? ⟨0, 19, none⟩ = some (.bool true) := fun o => rule_cell HEV.out.2.1 19 1 rfl _ (box_below w o)
  have r2 : ∀ o, (w.alloc o).cell? ⟨0, 20, none⟩ = some (.bool false) := fun o => rule_cell HEV.out.2.1 20 0 rfl _ (box_below w o)
  have r3 : ∀ o, (w.alloc o).cell? ⟨0, 21, none⟩ = some (.bool false) := fun o => rule_cell HEV.out.2.1 21 0 rfl _ (box_below w o)
  have r4 : ∀ o, (w.alloc o).cell? ⟨0, 22, none⟩ = some (.bool false) := fun o => rule_cell HEV.out.2.1 22 0 rfl _ (box_below w o)
  have r5 : ∀ o, (w.alloc o).cell? ⟨0, 23, none⟩ = some (.bool true) := fun o => rule_cell HEV.out.2.1 23 1 rfl _ (box_below w o)
  have d0 : ∀ o p, ((w.alloc o).alloc p).cell? ⟨D, 0, none⟩ = _ := fun o p => cell_keep ((box_below w o).alloc (by simp) p) hD0
  have d2 : ∀ o p, ((w.alloc o).alloc p).cell? ⟨D, 2, none⟩ = _ := fun o p => cell_keep ((box_below w o).alloc (by simp) p) hD2
  have d3 : ∀ o p, ((w.alloc o).alloc p).cell? ⟨D, 3, none⟩ = _ := fun o p => cell_keep ((box_below w o).alloc (by simp) p) hD3
  have hEq := eq_rule3
  obtain ⟨W, hW⟩ : ∃ W, W = (w.alloc (.cells #[.int .u8 3, .string X, .string V, .int .i64 (Ptr.par l i)] 32)).alloc (.cells #[.bool true, .bool true, .bool false, .bool false, .bool false, .bool true] 99) := ⟨_, rfl⟩
  have hWb : Below w.heap.size w W := by rw [hW]; exact (box_below w _).alloc (by simp) _
  have HWB := Kept.mk hWb
  have n0 : W.cell? ⟨w.heap.size, 0, none⟩ = some (.int .u8 3) := by rw [hW]; exact box_at w _ _ _ _ rfl
  have n1 : W.cell? ⟨w.heap.size, 1, none⟩ = some (.string X) := by rw [hW]; exact box_at w _ _ _ _ rfl
  have n2 : W.cell? ⟨w.heap.size, 2, none⟩ = some (.string V) := by rw [hW]; exact box_at w _ _ _ _ rfl
  have n3 : W.cell? ⟨w.heap.size, 3, none⟩ = some (.int .i64 (Ptr.par l i)) := by rw [hW]; exact box_at w _ _ _ _ rfl
  have s0 : W.cell? ⟨w.heap.size + 1, 0, none⟩ = some (.bool true) := by rw [hW]; exact box_at2 w _ _ _ _ rfl
  have s1 : W.cell? ⟨w.heap.size + 1, 1, none⟩ = some (.bool true) := by rw [hW]; exact box_at2 w _ _ _ _ rfl
  have s2 : W.cell? ⟨w.heap.size + 1, 2, none⟩ = some (.bool false) := by rw [hW]; exact box_at2 w _ _ _ _ rfl
  have s3 : W.cell? ⟨w.heap.size + 1, 3, none⟩ = some (.bool false) := by rw [hW]; exact box_at2 w _ _ _ _ rfl
  have s4 : W.cell? ⟨w.heap.size + 1, 4, none⟩ = some (.bool false) := by rw [hW]; exact box_at2 w _ _ _ _ rfl
  have s5 : W.cell? ⟨w.heap.size + 1, 5, none⟩ = some (.bool true) := by rw [hW]; exact box_at2 w _ _ _ _ rfl
  have D0 := cell_keep hWb hD0
  have HW00 := Kept.mk hD0
  have HD0 := Kept.mk D0; have HD2 := Kept.mk (cell_keep hWb hD2); have HD3 := Kept.mk (cell_keep hWb hD3)
  have HNN := Kept.mk n0; have HN1 := Kept.mk n1; have HN2 := Kept.mk n2; have HN3 := Kept.mk n3
  have HBF := Kept.mk hBF
  have e0 := beh_cell n0
  have e1 := beh_cell n1
  have e2 := beh_cell n2
  have e3 := beh_cell n3
  have f0 := beh_cell s0
  have f1 := beh_cell s1
  have f2 := beh_cell s2
  have f3 := beh_cell s3
  have f4 := beh_cell s4
  have f5 := beh_cell s5
  have g0 := beh_cell D0
  have cN := fun (x : Beh W) => name_call1 X x.fin (by rw [hXs]; exact hn) ((hE.below hWb).below x.ok).1
  have cT := fun (x : Beh W) => text_call1 V x.fin (by rw [hVs]; exact hv) ((hE.below hWb).below x.ok).1
  have cW := fun (x : Beh W) => within_any true true false false false true (some ⟨b, off, none⟩) l c (Ptr.par l i) x.fin ((hr.below hWb).below x.ok) (by omega)
  rw [hXd] at cN
  rw [hVd] at cT
  rw [← hVs]
  have hW0 : Ptr.par l i < 0 → withinB false false true l (Ptr.par l i) = false := fun h => by unfold withinB; rw [if_pos h]
  generalize withinB false false true l (Ptr.par l i) = WB at cW hW0 ⊢
  have HW0 := Kept.mk hW0
  clear hW0
  generalize Pch.nameL (Ptr.nam l i) = N at cN ⊢
  generalize Pch.textsL (Ptr.val l i) = T at cT ⊢
  have vE : ∀ z : Bool, decide (Ptr.val l i = []) = z → (if z = true then V.toList = [] else (V.toList == []) = false ∧ V.toList.isEmpty = false) := fun z hz => by
    cases z
    · have h := of_decide_eq_false hz
      rw [← hVl] at h
      exact ⟨by simpa using h, by simpa using h⟩
    · have h := of_decide_eq_true hz
      rw [← hVl] at h
      exact h
  have xE : ∀ z : Bool, decide (Ptr.nam l i = []) = z → (if z = true then X.toList = [] else (X.toList == []) = false ∧ X.toList.isEmpty = false) := fun z hz => by
    cases z
    · have h := of_decide_eq_false hz
      rw [← hXl] at h
      exact ⟨by simpa using h, by simpa using h⟩
    · have h := of_decide_eq_true hz
      rw [← hXl] at h
      exact h
  obtain ⟨P, hPQ⟩ : ∃ P, Ptr.par l i = P := ⟨_, rfl⟩
  rw [hPQ] at q3 e3 cW
  have HP := Kept.mk hPQ
  clear hPQ
  have CN := Kept.mk cN
  have CT := Kept.mk cT
  have CW := Kept.mk cW
  have HVS := Kept.mk hVs
  have HVD := Kept.mk hVd
  have HVL := Kept.mk hVl
  have HXD := Kept.mk hXd
  have HXL := Kept.mk hXl
  have HXS := Kept.mk hXs
  have HWW := Kept.mk hW
  have HPP := Kept.mk hP
  have VE := Kept.mk vE
  clear cN cT cW hVs hVd hVl hXd hXl hXs hV hX hW hP hE hr hn hv hk hWb vE xE hBF hD2 hD3
  generalize hLC : Ptr.lastC l (Ptr.par l i) i = LC at HBF ⊢
  generalize hRR : (decide (LC < 0) && freeFrom l (Ptr.nam l i) i ((Ptr.par l i).toNat + 1)) = R
  have HR := Kept.mk hRR
  have hLC2 := Ptr.lastC_lt l (Ptr.par l i) i
  rw [hLC] at hLC2
  have HLC := Kept.mk hLC2
  clear hLC hLC2
  generalize hLB : decide (V.size ≤ 65536) = LB
  have HLB := Kept.mk hLB
  clear hRR hLB
  go_enter Tryz.func46, Tryz.ntmps46
  go_wp2
  rw [← HP.out, ← HWW.out, HP.out]
  cases N with
  | true =>
    cases LB with
    | true =>
      have hlen : V.size ≤ 65536 := of_decide_eq_true HLB.out
      have v1 : ¬ (65536 : Int) < (V.size : Int) := by omega
      cases T with
      | true =>
        cases WB with
        | true =>
          refine wp_region_beh (by kernel_rfl) (by kernel_rfl) ?_
          repeat
            (refine Qw_step (fun K hK => ?_)
             go_simp
             first
               | (refine hK _ ?_; clear hK K)
               | (apply Exists.intro
                  refine ⟨fun _ => ?_, hK _ ?_⟩
                  (first | (go_at_call 74; exact Calls.beh_of (CN.out _)) | (go_at_call 75; exact Calls.beh_of (CT.out _)) | (go_at_call 76; exact Calls.beh_of (CW.out _)))
                  clear hK K))
          refine Qw_nil ?_
          rintro _ ⟨⟨w5, hb5⟩, rfl⟩
          have hbw := HWB.out.trans (hb5.mono HWB.out.size)
          have m0 := cell_keep hb5 HNN.out; have m1 := cell_keep hb5 HN1.out; have m2 := cell_keep hb5 HN2.out; have m3 := cell_keep hb5 HN3.out; have k0 := cell_keep hb5 HD0.out; have k2 := cell_keep hb5 HD2.out; have k3 := cell_keep hb5 HD3.out
          have hBF := HBF.out
          have hPP := HPP.out
          rw [HP.out] at hBF m3 hPP
          have HB5 := Kept.mk hb5; have HBW := Kept.mk hbw
          clear hbw hb5
          by_cases hp : P < 0
          · rw [if_pos hp] at hBF
            have hBS := hBF.symm
            clear hBF
            subst hBS
            exact absurd (HW0.out (by rw [HP.out]; exact hp)) (by simp)
          · rw [if_neg hp] at hBF
            have k4 := cell_keep HBW.out hBF
            obtain ⟨p, rfl⟩ : ∃ p : Nat, P = p := ⟨P.toNat, by omega⟩
            rw [Int.toNat_natCast] at k4
            have p0 : (0 : Int) ≤ (p : Int) := by omega
            have p1 : (p : Int) < (l.length : Int) := by omega
            clear hp hBF
            by_cases hlc : LC < 0
            · have hR2 := HR.out
              rw [decide_eq_true hlc, Bool.true_and, HP.out, Int.toNat_natCast] at hR2
              have HR2 := Kept.mk hR2
              have HM1 := Kept.mk m1
              have lc2 : ¬ 0 ≤ LC := by omega
              have p9 : p < i := by omega
              clear hR2 hlc
              go_wp2
              go_quiet (fail)
              go_wp2
              go_loopw [8] (fun k wx => ∃ m : Nat, m ≤ i ∧ k = .int .i64 m ∧ Below w.heap.size w wx ∧ wx.cell? ⟨w.heap.size, 1, none⟩ = some (.string X) ∧ Hid (freeFrom l (Ptr.nam l i) i m = R)) (fun k _ => i - (intOf k).toNat)
              case atStart => exact ⟨p + 1, by omega, by go_num, below_drewN HBW.out _, cell_keep (below_drewN (Below.refl _ _) _) HM1.out, HR2.out⟩
              case round =>
                obtain ⟨m, hm, rfl, hb, x1, H⟩ := hrel
                have HB := Kept.mk hb
                have j0 : (0 : Int) ≤ (m : Int) := by omega
                have h := H.out
                by_cases hlt : m < i
                · rw [freeFrom_step _ _ _ _ hlt] at h
                  have j1 : (m : Int) < (l.length : Int) := by omega
                  obtain ⟨_, c1, _, _⟩ := (HRD.out.below hb).cells (i := m) (by omega)
                  have x0 := cell_keep hb HW00.out; have HX1 := Kept.mk x1
                  simp only at c1
                  obtain ⟨Y, hY⟩ : ∃ Y : ByteArray, Y = ⟨(Ptr.nam l m).toArray⟩ := ⟨_, rfl⟩
                  have hYl : Y.toList = Ptr.nam l m := by rw [hY, ByteArray.toList_eq]
                  rw [← hY] at c1
                  rw [← hYl, ← HXL.out] at h
                  clear hb H hY hYl
                  by_cases e4 : Y.toList = X.toList
                  · have hX : Kept (R = false) := ⟨by rw [← h, decide_eq_true e4]; rfl⟩
                    have f4 : (Y.toList == X.toList) = true := by rw [e4, beq_self_eq_true]
                    clear h e4 k0 m1
                    go_wp2
                    go_quiet (fail)
                    go_wp2
                    go_ret
                    exact ⟨ret_bool hX.out.symm, below_drewN HB.out _⟩
                  · rw [decide_eq_false e4, Bool.not_false, Bool.true_and] at h
                    have H1 : Hid (freeFrom l (Ptr.nam l i) i (m + 1) = R) := by rw [← HXL.out]; exact h
                    have f4 : (Y.toList == X.toList) = false := by simpa using e4
                    clear h e4 k0 m1
                    go_wp2
                    go_quiet (fail)
                    go_wp2
                    go_roundw
                    case rel => exact ⟨m + 1, by omega, by go_num, below_drewN HB.out _, cell_keep (below_drewN (Below.refl _ _) _) HX1.out, H1.out⟩
                    case measure => simp [intOf]; omega
                · rw [freeFrom_end _ _ _ _ hlt] at h
                  have hX : Kept (R = true) := ⟨h.symm⟩
                  clear h H hb k0 m1
                  go_wp2
                  go_ret
                  exact ⟨ret_bool hX.out.symm, HB.out⟩
            · have hX : Kept (R = false) := ⟨by rw [← HR.out, decide_eq_false hlc]; rfl⟩
              have lc2 : 0 ≤ LC := by omega
              clear hlc
              go_wp2
              go_quiet (fail)
              go_wp2
              go_ret
              exact ⟨ret_bool hX.out.symm, below_drewN HBW.out _⟩
        | false =>
          refine wp_region_beh (by kernel_rfl) (by kernel_rfl) ?_
          repeat
            (refine Qw_step (fun K hK => ?_)
             go_simp
             first
               | (refine hK _ ?_; clear hK K)
               | (apply Exists.intro
                  refine ⟨fun _ => ?_, hK _ ?_⟩
                  (first | (go_at_call 74; exact Calls.beh_of (CN.out _)) | (go_at_call 75; exact Calls.beh_of (CT.out _)) | (go_at_call 76; exact Calls.beh_of (CW.out _)))
                  clear hK K))
          refine Qw_nil ?_
          rintro _ ⟨⟨w5, hb5⟩, rfl⟩
          go_wp2
          go_ret
          exact ⟨rfl, HWB.out.trans (hb5.mono HWB.out.size)⟩
      | false =>
        refine wp_region_beh (by kernel_rfl) (by kernel_rfl) ?_
        repeat
          (refine Qw_step (fun K hK => ?_)
           go_simp
           first
             | (refine hK _ ?_; clear hK K)
             | (apply Exists.intro
                refine ⟨fun _ => ?_, hK _ ?_⟩
                (first | (go_at_call 74; exact Calls.beh_of (CN.out _)) | (go_at_call 75; exact Calls.beh_of (CT.out _)))
                clear hK K))
        refine Qw_nil ?_
        rintro _ ⟨⟨w5, hb5⟩, rfl⟩
        go_wp2
        go_ret
        exact ⟨rfl, HWB.out.trans (hb5.mono HWB.out.size)⟩
    | false =>
      have hlen : ¬ V.size ≤ 65536 := of_decide_eq_false HLB.out
      have v1 : (65536 : Int) < (V.size : Int) := by omega
      refine wp_region_beh (by kernel_rfl) (by kernel_rfl) ?_
      repeat
        (refine Qw_step (fun K hK => ?_)
         go_simp
         first
           | (refine hK _ ?_; clear hK K)
           | (apply Exists.intro
              refine ⟨fun _ => ?_, hK _ ?_⟩
              (first | (go_at_call 74; exact Calls.beh_of (CN.out _)))
              clear hK K))
      refine Qw_nil ?_
      rintro _ ⟨⟨w5, hb5⟩, rfl⟩
      go_wp2
      go_ret
      exact ⟨rfl, HWB.out.trans (hb5.mono HWB.out.size)⟩
  | false =>
    refine wp_region_beh (by kernel_rfl) (by kernel_rfl) ?_
    repeat
      (refine Qw_step (fun K hK => ?_)
       go_simp
       first
         | (refine hK _ ?_; clear hK K)
         | (apply Exists.intro
            refine ⟨fun _ => ?_, hK _ ?_⟩
            (first | (go_at_call 74; exact Calls.beh_of (CN.out _)))
            clear hK K))
    refine Qw_nil ?_
    rintro _ ⟨⟨w5, hb5⟩, rfl⟩
    go_wp2
    go_ret
    exact ⟨rfl, HWB.out.trans (hb5.mono HWB.out.size)⟩
end Go.Proofs.YtemfmidhekdekaaGreatDoor.Wtr
namespace Go.Proofs.YtemfmidhekdekaaGreatDoor.Wtr
open Go Go.RowKit Go.Proofs.YtemfmidhekdekaaGreatDoor.Kb

theorem eq_rule4 (w : World) : (binOp .eql 99 (.agg #[.bool false, .bool true, .bool true, .bool true, .bool false, .bool true]) (.agg #[.bool false, .bool false, .bool false, .bool false, .bool false, .bool false])).run Tryz.prog w = .ok (.bool false) w := by kernel_rfl
set_option maxRecDepth 100000 in
set_option maxHeartbeats 8000000 in
theorem pfits_4 (D gl : Nat) (tp : Int) (A : Option Addr) (l : List Ptr.Nd) (c i : Nat) (w : World) (hD0 : w.cell? ⟨D, 0, none⟩ = some (.slice A l.length c)) (hD2 : w.cell? ⟨D, 2, none⟩ = some (.slice (some ⟨gl, 0, none⟩) l.length l.length)) (hD3 : w.cell? ⟨D, 3, none⟩ = some (.int .i64 tp))
    (hBF : if Ptr.par l i < 0 then tp = Ptr.lastC l (Ptr.par l i) i else w.cell? ⟨gl, (Ptr.par l i).toNat, none⟩ = some (.int .i64 (Ptr.lastC l (Ptr.par l i) i)))
    (hr : RdN w A l) (hi : i < l.length) (hP : -1 ≤ Ptr.par l i ∧ Ptr.par l i < i) (_hl : l.length ≤ 100000) (hn : (Ptr.nam l i).length ≤ 9223372036854775807) (hv : (Ptr.val l i).length ≤ 9223372036854775807) (hE : TEnv w) (hk : Ptr.kin l i = 4) :
    Calls Tryz.prog 46 #[.pointer (some ⟨D, 0, none⟩), .int .i64 i] w fun e w' => e = .returned (.bool (!Pch.nameL (Ptr.nam l i) && (decide (Ptr.nam l i = []) && (!decide (Ptr.val l i = []) && (decide ((Ptr.val l i).length ≤ 65536) && (Pch.textsL (Ptr.val l i) && (withinB true false true l (Ptr.par l i) && (decide (Ptr.lastC l (Ptr.par l i) i < 0) || !(Ptr.kin l (Ptr.lastC l (Ptr.par l i) i).toNat == 4))))))) )) ∧ Below w.heap.size w w' := by
  obtain ⟨b, off, rfl, q0, q1, q2, q3⟩ := hr.at_ hi
  have HRD := Kept.mk hr
  have HEV := Kept.mk hE
  have HV := Kept.mk hv
  have HN := Kept.mk hn
  have i0 : (0 : Int) ≤ (i : Int) := by omega
  have i1 : (i : Int) < (l.length : Int) := by omega
  simp only at q0 q1 q2 q3
  rw [hk] at q0
  obtain ⟨V, hV⟩ : ∃ V : ByteArray, V = ⟨(Ptr.val l i).toArray⟩ := ⟨_, rfl⟩
  have hVs : V.size = (Ptr.val l i).length := by rw [hV]; show (Ptr.val l i).toArray.size = _; simp
  have hVl : V.toList = Ptr.val l i := by rw [hV, ByteArray.toList_eq]
  have hVd : V.data.toList = Ptr.val l i := by rw [hV]
  obtain ⟨X, hX⟩ : ∃ X : ByteArray, X = ⟨(Ptr.nam l i).toArray⟩ := ⟨_, rfl⟩
  have hXs : X.size = (Ptr.nam l i).length := by rw [hX]; show (Ptr.nam l i).toArray.size = _; simp
  have hXl : X.toList = Ptr.nam l i := by rw [hX, ByteArray.toList_eq]
  have hXd : X.data.toList = Ptr.nam l i := by rw [hX]
  rw [← hV] at q2
  rw [← hX] at q1
  have r0 : ∀ o, (w.alloc o).cell? ⟨0, 24, none⟩ = some (.bool false) := fun o => rule_cell HEV.out.2.1 24 0 rfl _ (box_below w o)
  have r1 : ∀ o, (w.alloc o).cell? ⟨0, 25, none⟩ = some (.bool true) := fun o => rule_cell HEV.out.2.1 25 1 rfl _ (box_below w o)
  have r2 : ∀ o, (w.alloc o).cell? ⟨0, 26, none⟩ = some (.bool true) := fun o => rule_cell HEV.out.2.1 26 1 rfl _ (box_below w o)
  have r3 : ∀ o, (w.alloc o).cell? ⟨0, 27, none⟩ = some (.bool true) := fun o => rule_cell HEV.out.2.1 27 1 rfl _ (box_below w o)
  have r4 : ∀ o, (w.alloc o).cell? ⟨0, 28, none⟩ = some (.bool false) := fun o => rule_cell HEV.out.2.1 28 0 rfl _ (box_below w o)
  have r5 : ∀ o, (w.alloc o).cell? ⟨0, 29, none⟩ = some (.bool true) := fun o => rule_cell HEV.out.2.1 29 1 rfl _ (box_below w o)
  have d0 : ∀ o p, ((w.alloc o).alloc p).cell? ⟨D, 0, none⟩ = _ := fun o p => cell_keep ((box_below w o).alloc (by simp) p) hD0
  have d2 : ∀ o p, ((w.alloc o).alloc p).cell? ⟨D, 2, none⟩ = _ := fun o p => cell_keep ((box_below w o).alloc (by simp) p) hD2
  have d3 : ∀ o p, ((w.alloc o).alloc p).cell? ⟨D, 3, none⟩ = _ := fun o p => cell_keep ((box_below w o).alloc (by simp) p) hD3
  have hEq := eq_rule4
  obtain ⟨W, hW⟩ : ∃ W, W = (w.alloc (.cells #[.int .u8 4, .string X, .string V, .int .i64 (Ptr.par l i)] 32)).alloc (.cells #[.bool false, .bool true, .bool true, .bool true, .bool false, .bool true] 99) := ⟨_, rfl⟩
  have hWb : Below w.heap.size w W := by rw [hW]; exact (box_below w _).alloc (by simp) _
  have HWB := Kept.mk hWb
  have n0 : W.cell? ⟨w.heap.size, 0, none⟩ = some (.int .u8 4) := by rw [hW]; exact box_at w _ _ _ _ rfl
  have n1 : W.cell? ⟨w.heap.size, 1, none⟩ = some (.string X) := by rw [hW]; exact box_at w _ _ _ _ rfl
  have n2 : W.cell? ⟨w.heap.size, 2, none⟩ = some (.string V) := by rw [hW]; exact box_at w _ _ _ _ rfl
  have n3 : W.cell? ⟨w.heap.size, 3, none⟩ = some (.int .i64 (Ptr.par l i)) := by rw [hW]; exact box_at w _ _ _ _ rfl
  have s0 : W.cell? ⟨w.heap.size + 1, 0, none⟩ = some (.bool false) := by rw [hW]; exact box_at2 w _ _ _ _ rfl
  have s1 : W.cell? ⟨w.heap.size + 1, 1, none⟩ = some (.bool true) := by rw [hW]; exact box_at2 w _ _ _ _ rfl
  have s2 : W.cell? ⟨w.heap.size + 1, 2, none⟩ = some (.bool true) := by rw [hW]; exact box_at2 w _ _ _ _ rfl
  have s3 : W.cell? ⟨w.heap.size + 1, 3, none⟩ = some (.bool true) := by rw [hW]; exact box_at2 w _ _ _ _ rfl
  have s4 : W.cell? ⟨w.heap.size + 1, 4, none⟩ = some (.bool false) := by rw [hW]; exact box_at2 w _ _ _ _ rfl
  have s5 : W.cell? ⟨w.heap.size + 1, 5, none⟩ = some (.bool true) := by rw [hW]; exact box_at2 w _ _ _ _ rfl
  have D0 := cell_keep hWb hD0
  have HD0 := Kept.mk D0; have HD2 := Kept.mk (cell_keep hWb hD2); have HD3 := Kept.mk (cell_keep hWb hD3)
  have HNN := Kept.mk n0; have HN1 := Kept.mk n1; have HN2 := Kept.mk n2; have HN3 := Kept.mk n3
  have HBF := Kept.mk hBF
  have e0 := beh_cell n0
  have e1 := beh_cell n1
  have e2 := beh_cell n2
  have e3 := beh_cell n3
  have f0 := beh_cell s0
  have f1 := beh_cell s1
  have f2 := beh_cell s2
  have f3 := beh_cell s3
  have f4 := beh_cell s4
  have f5 := beh_cell s5
  have g0 := beh_cell D0
  have cN := fun (x : Beh W) => name_call1 X x.fin (by rw [hXs]; exact hn) ((hE.below hWb).below x.ok).1
  have cT := fun (x : Beh W) => text_call1 V x.fin (by rw [hVs]; exact hv) ((hE.below hWb).below x.ok).1
  have cW := fun (x : Beh W) => within_any false true true true false true (some ⟨b, off, none⟩) l c (Ptr.par l i) x.fin ((hr.below hWb).below x.ok) (by omega)
  rw [hXd] at cN
  rw [hVd] at cT
  rw [← hVs]
  have hW0 : Ptr.par l i < 0 → withinB true false true l (Ptr.par l i) = true := fun h => by unfold withinB; rw [if_pos h]
  generalize withinB true false true l (Ptr.par l i) = WB at cW hW0 ⊢
  have HW0 := Kept.mk hW0
  clear hW0
  generalize Pch.nameL (Ptr.nam l i) = N at cN ⊢
  generalize Pch.textsL (Ptr.val l i) = T at cT ⊢
  have vE : ∀ z : Bool, decide (Ptr.val l i = []) = z → (if z = true then V.toList = [] else (V.toList == []) = false ∧ V.toList.isEmpty = false) := fun z hz => by
    cases z
    · have h := of_decide_eq_false hz
      rw [← hVl] at h
      exact ⟨by simpa using h, by simpa using h⟩
    · have h := of_decide_eq_true hz
      rw [← hVl] at h
      exact h
  have xE : ∀ z : Bool, decide (Ptr.nam l i = []) = z → (if z = true then X.toList = [] else (X.toList == []) = false ∧ X.toList.isEmpty = false) := fun z hz => by
    cases z
    · have h := of_decide_eq_false hz
      rw [← hXl] at h
      exact ⟨by simpa using h, by simpa using h⟩
    · have h := of_decide_eq_true hz
      rw [← hXl] at h
      exact h
  generalize hz : decide (Ptr.val l i = []) = Z
  have vZ := vE Z hz
  generalize hy : decide (Ptr.nam l i = []) = Y
  have xZ := xE Y hy
  obtain ⟨P, hPQ⟩ : ∃ P, Ptr.par l i = P := ⟨_, rfl⟩
  rw [hPQ] at q3 e3 cW
  have HP := Kept.mk hPQ
  clear hPQ
  have CN := Kept.mk cN
  have CT := Kept.mk cT
  have CW := Kept.mk cW
  have HVS := Kept.mk hVs
  have HVD := Kept.mk hVd
  have HVL := Kept.mk hVl
  have HXD := Kept.mk hXd
  have HXL := Kept.mk hXl
  have HXS := Kept.mk hXs
  have HWW := Kept.mk hW
  have HPP := Kept.mk hP
  have VE := Kept.mk vE
  clear cN cT cW hVs hVd hVl hXd hXl hXs hV hX hW hP hE hr hn hv hk hWb vE xE hBF hD2 hD3
  generalize hLC : Ptr.lastC l (Ptr.par l i) i = LC at HBF ⊢
  generalize hRR : (decide (LC < 0) || !(Ptr.kin l LC.toNat == 4)) = R
  have HR := Kept.mk hRR
  have hLC2 := Ptr.lastC_lt l (Ptr.par l i) i
  rw [hLC] at hLC2
  have HLC := Kept.mk hLC2
  clear hLC hLC2
  generalize hLB : decide (V.size ≤ 65536) = LB
  have HLB := Kept.mk hLB
  clear hRR hLB
  go_enter Tryz.func46, Tryz.ntmps46
  go_wp2
  rw [← HP.out, ← HWW.out, HP.out]
  cases N with
  | true =>
    refine wp_region_beh (by kernel_rfl) (by kernel_rfl) ?_
    repeat
      (refine Qw_step (fun K hK => ?_)
       go_simp
       first
         | (refine hK _ ?_; clear hK K)
         | (apply Exists.intro
            refine ⟨fun _ => ?_, hK _ ?_⟩
            (first | (go_at_call 74; exact Calls.beh_of (CN.out _)))
            clear hK K))
    refine Qw_nil ?_
    rintro _ ⟨⟨w5, hb5⟩, rfl⟩
    go_wp2
    go_ret
    exact ⟨rfl, HWB.out.trans (hb5.mono HWB.out.size)⟩
  | false =>
    cases Y with
    | true =>
      have xz : X.toList = [] := xZ
      clear xZ
      cases Z with
      | true =>
        have vz : V.toList = [] := vZ
        clear vZ
        refine wp_region_beh (by kernel_rfl) (by kernel_rfl) ?_
        repeat
          (refine Qw_step (fun K hK => ?_)
           go_simp
           first
             | (refine hK _ ?_; clear hK K)
             | (apply Exists.intro
                refine ⟨fun _ => ?_, hK _ ?_⟩
                (first | (go_at_call 74; exact Calls.beh_of (CN.out _)))
                clear hK K))
        refine Qw_nil ?_
        rintro _ ⟨⟨w5, hb5⟩, rfl⟩
        go_wp2
        go_ret
        exact ⟨rfl, HWB.out.trans (hb5.mono HWB.out.size)⟩
      | false =>
        obtain ⟨vz, vz2⟩ : (V.toList == []) = false ∧ V.toList.isEmpty = false := vZ
        cases LB with
        | true =>
          have hlen : V.size ≤ 65536 := of_decide_eq_true HLB.out
          have v1 : ¬ (65536 : Int) < (V.size : Int) := by omega
          cases T with
          | true =>
            cases WB with
            | true =>
              refine wp_region_beh (by kernel_rfl) (by kernel_rfl) ?_
              repeat
                (refine Qw_step (fun K hK => ?_)
                 go_simp
                 first
                   | (refine hK _ ?_; clear hK K)
                   | (apply Exists.intro
                      refine ⟨fun _ => ?_, hK _ ?_⟩
                      (first | (go_at_call 74; exact Calls.beh_of (CN.out _)) | (go_at_call 75; exact Calls.beh_of (CT.out _)) | (go_at_call 76; exact Calls.beh_of (CW.out _)))
                      clear hK K))
              refine Qw_nil ?_
              rintro _ ⟨⟨w5, hb5⟩, rfl⟩
              have hbw := HWB.out.trans (hb5.mono HWB.out.size)
              have m0 := cell_keep hb5 HNN.out; have m1 := cell_keep hb5 HN1.out; have m2 := cell_keep hb5 HN2.out; have m3 := cell_keep hb5 HN3.out; have k0 := cell_keep hb5 HD0.out; have k2 := cell_keep hb5 HD2.out; have k3 := cell_keep hb5 HD3.out
              have hBF := HBF.out
              have hPP := HPP.out
              rw [HP.out] at hBF m3 hPP
              have HB5 := Kept.mk hb5; have HBW := Kept.mk hbw
              clear hbw hb5
              by_cases hp : P < 0
              · rw [if_pos hp] at hBF
                have hBS := hBF.symm
                clear hBF
                subst hBS
                by_cases hlc : LC < 0
                · have hX : Kept (R = true) := ⟨by rw [← HR.out, decide_eq_true hlc]; rfl⟩
                  go_wp2
                  go_ret
                  exact ⟨ret_bool hX.out.symm, HBW.out⟩
                · obtain ⟨q, rfl⟩ : ∃ q : Nat, LC = q := ⟨LC.toNat, by omega⟩
                  have hql : q < l.length := by have := HLC.out; omega
                  have hR2 := HR.out
                  rw [decide_eq_false hlc, Bool.false_or, Int.toNat_natCast] at hR2
                  obtain ⟨c0, _⟩ := (HRD.out.below HBW.out).cells hql
                  simp only at c0
                  have e9 : (((Ptr.kin l q : Nat) : Int) != 4) = !(Ptr.kin l q == 4) := congrArg Bool.not (beq_cast (Ptr.kin l q) 4)
                  have q0 : (0 : Int) ≤ (q : Int) := by omega
                  have q9 : (q : Int) < (l.length : Int) := by omega
                  generalize Ptr.kin l q = KQ at c0 hR2 e9
                  generalize (KQ == 4) = Z4 at hR2 e9
                  have HR2 := Kept.mk hR2
                  clear hR2 hlc
                  cases Z4
                  all_goals
                    go_wp2
                    go_ret
                    exact ⟨ret_bool HR2.out, HBW.out⟩
              · rw [if_neg hp] at hBF
                have k4 := cell_keep HBW.out hBF
                obtain ⟨p, rfl⟩ : ∃ p : Nat, P = p := ⟨P.toNat, by omega⟩
                rw [Int.toNat_natCast] at k4
                have p0 : (0 : Int) ≤ (p : Int) := by omega
                have p1 : (p : Int) < (l.length : Int) := by omega
                clear hp hBF
                by_cases hlc : LC < 0
                · have hX : Kept (R = true) := ⟨by rw [← HR.out, decide_eq_true hlc]; rfl⟩
                  go_wp2
                  go_quiet (fail)
                  go_wp2
                  go_ret
                  exact ⟨ret_bool hX.out.symm, below_drewN HBW.out _⟩
                · obtain ⟨q, rfl⟩ : ∃ q : Nat, LC = q := ⟨LC.toNat, by omega⟩
                  have hql : q < l.length := by have := HLC.out; omega
                  have hR2 := HR.out
                  rw [decide_eq_false hlc, Bool.false_or, Int.toNat_natCast] at hR2
                  obtain ⟨c0, _⟩ := (HRD.out.below HBW.out).cells hql
                  simp only at c0
                  have e9 : (((Ptr.kin l q : Nat) : Int) != 4) = !(Ptr.kin l q == 4) := congrArg Bool.not (beq_cast (Ptr.kin l q) 4)
                  have q0 : (0 : Int) ≤ (q : Int) := by omega
                  have q9 : (q : Int) < (l.length : Int) := by omega
                  generalize Ptr.kin l q = KQ at c0 hR2 e9
                  generalize (KQ == 4) = Z4 at hR2 e9
                  have HR2 := Kept.mk hR2
                  clear hR2 hlc
                  cases Z4
                  all_goals
                    go_wp2
                    go_quiet (fail)
                    go_wp2
                    go_ret
                    exact ⟨ret_bool HR2.out, below_drewN HBW.out _⟩
            | false =>
              refine wp_region_beh (by kernel_rfl) (by kernel_rfl) ?_
              repeat
                (refine Qw_step (fun K hK => ?_)
                 go_simp
                 first
                   | (refine hK _ ?_; clear hK K)
                   | (apply Exists.intro
                      refine ⟨fun _ => ?_, hK _ ?_⟩
                      (first | (go_at_call 74; exact Calls.beh_of (CN.out _)) | (go_at_call 75; exact Calls.beh_of (CT.out _)) | (go_at_call 76; exact Calls.beh_of (CW.out _)))
                      clear hK K))
              refine Qw_nil ?_
              rintro _ ⟨⟨w5, hb5⟩, rfl⟩
              go_wp2
              go_ret
              exact ⟨rfl, HWB.out.trans (hb5.mono HWB.out.size)⟩
          | false =>
            refine wp_region_beh (by kernel_rfl) (by kernel_rfl) ?_
            repeat
              (refine Qw_step (fun K hK => ?_)
               go_simp
               first
                 | (refine hK _ ?_; clear hK K)
                 | (apply Exists.intro
                    refine ⟨fun _ => ?_, hK _ ?_⟩
                    (first | (go_at_call 74; exact Calls.beh_of (CN.out _)) | (go_at_call 75; exact Calls.beh_of (CT.out _)))
                    clear hK K))
            refine Qw_nil ?_
            rintro _ ⟨⟨w5, hb5⟩, rfl⟩
            go_wp2
            go_ret
            exact ⟨rfl, HWB.out.trans (hb5.mono HWB.out.size)⟩
        | false =>
          have hlen : ¬ V.size ≤ 65536 := of_decide_eq_false HLB.out
          have v1 : (65536 : Int) < (V.size : Int) := by omega
          refine wp_region_beh (by kernel_rfl) (by kernel_rfl) ?_
          repeat
            (refine Qw_step (fun K hK => ?_)
             go_simp
             first
               | (refine hK _ ?_; clear hK K)
               | (apply Exists.intro
                  refine ⟨fun _ => ?_, hK _ ?_⟩
                  (first | (go_at_call 74; exact Calls.beh_of (CN.out _)))
                  clear hK K))
          refine Qw_nil ?_
          rintro _ ⟨⟨w5, hb5⟩, rfl⟩
          go_wp2
          go_ret
          exact ⟨rfl, HWB.out.trans (hb5.mono HWB.out.size)⟩
    | false =>
      obtain ⟨xz, xz2⟩ : (X.toList == []) = false ∧ X.toList.isEmpty = false := xZ
      refine wp_region_beh (by kernel_rfl) (by kernel_rfl) ?_
      repeat
        (refine Qw_step (fun K hK => ?_)
         go_simp
         first
           | (refine hK _ ?_; clear hK K)
           | (apply Exists.intro
              refine ⟨fun _ => ?_, hK _ ?_⟩
              (first | (go_at_call 74; exact Calls.beh_of (CN.out _)))
              clear hK K))
      refine Qw_nil ?_
      rintro _ ⟨⟨w5, hb5⟩, rfl⟩
      go_wp2
      go_ret
      exact ⟨rfl, HWB.out.trans (hb5.mono HWB.out.size)⟩
end Go.Proofs.YtemfmidhekdekaaGreatDoor.Wtr
