/- The program's check of trees (chapter 06), joined: TreeVc -/
import Derived.Test.YtemfmidhekdekaaGreatDoorTreeVa
namespace Go.Proofs.YtemfmidhekdekaaGreatDoor.Wtr
open Go Go.RowKit Go.Proofs.YtemfmidhekdekaaGreatDoor.Kb

theorem eq_rule5 (w : World) : (binOp .eql 99 (.agg #[.bool false, .bool true, .bool false, .bool true, .bool true, .bool true]) (.agg #[.bool false, .bool false, .bool false, .bool false, .bool false, .bool false])).run Tryz.prog w = .ok (.bool false) w := by kernel_rfl
set_option maxRecDepth 100000 in
set_option maxHeartbeats 8000000 in
theorem pfits_5 (D gl : Nat) (tp : Int) (A : Option Addr) (l : List Ptr.Nd) (c i : Nat) (w : World) (hD0 : w.cell? ⟨D, 0, none⟩ = some (.slice A l.length c)) (hD2 : w.cell? ⟨D, 2, none⟩ = some (.slice (some ⟨gl, 0, none⟩) l.length l.length)) (hD3 : w.cell? ⟨D, 3, none⟩ = some (.int .i64 tp))
    (hBF : if Ptr.par l i < 0 then tp = Ptr.lastC l (Ptr.par l i) i else w.cell? ⟨gl, (Ptr.par l i).toNat, none⟩ = some (.int .i64 (Ptr.lastC l (Ptr.par l i) i)))
    (hr : RdN w A l) (hi : i < l.length) (hP : -1 ≤ Ptr.par l i ∧ Ptr.par l i < i) (_hl : l.length ≤ 100000) (hn : (Ptr.nam l i).length ≤ 9223372036854775807) (hv : (Ptr.val l i).length ≤ 9223372036854775807) (hE : TEnv w) (hk : Ptr.kin l i = 5) :
    Calls Tryz.prog 46 #[.pointer (some ⟨D, 0, none⟩), .int .i64 i] w fun e w' => e = .returned (.bool (!Pch.nameL (Ptr.nam l i) && (decide (Ptr.nam l i = []) && (decide ((Ptr.val l i).length ≤ 65536) && (Pch.textsL (Ptr.val l i) && (withinB true true true l (Ptr.par l i) && (!Ptr.has2 45 45 (Ptr.val l i) && !decide ((Ptr.val l i).getLast? = some 45)))))))) ∧ Below w.heap.size w w' := by
  obtain ⟨b, off, rfl, q0, q1, q2, q3⟩ := hr.at_ hi
  have HRD := Kept.mk hr
  have HEV := Kept.mk hE
  have HV := Kept.mk hv
  have HN := Kept.mk hn
  have i0 : (0 : Int) ≤ (i : Int) := by omega
  have i1 : (i : Int) < (l.length : Int) := by omega
  simp only at q0 q1 q2 q3
  rw [hk] at q0
  obtain ⟨V, hV⟩ : ∃ V : ByteArray, V = ⟨(Ptr.val l i).toArray⟩ := ⟨_, rfl⟩
  have hVs : V.size = (Ptr.val l i).length := by rw [hV]; show (Ptr.val l i).toArray.size = _; simp
  have hVl : V.toList = Ptr.val l i := by rw [hV, ByteArray.toList_eq]
  have hVd : V.data.toList = Ptr.val l i := by rw [hV]
  obtain ⟨X, hX⟩ : ∃ X : ByteArray, X = ⟨(Ptr.nam l i).toArray⟩ := ⟨_, rfl⟩
  have hXs : X.size = (Ptr.nam l i).length := by rw [hX]; show (Ptr.nam l i).toArray.size = _; simp
  have hXl : X.toList = Ptr.nam l i := by rw [hX, ByteArray.toList_eq]
  have hXd : X.data.toList = Ptr.nam l i := by rw [hX]
  rw [← hV] at q2
  rw [← hX] at q1
  have r0 : ∀ o, (w.alloc o).cell? ⟨0, 30, none⟩ = some (.bool false) := fun o => rule_cell HEV.out.2.1 30 0 rfl _ (box_below w o)
  have r1 : ∀ o, (w.alloc o).cell? ⟨0, 31, none⟩ = some (.bool true) := fun o => rule_cell HEV.out.2.1 31 1 rfl _ (box_below w o)
  have r2 : ∀ o, (w.alloc o).cell? ⟨0, 32, none⟩ = some (.bool false) := fun o => rule_cell HEV.out.2.1 32 0 rfl _ (box_below w o)
  have r3 : ∀ o, (w.alloc o).cell? ⟨0, 33, none⟩ = some (.bool true) := fun o => rule_cell HEV.out.2.1 33 1 rfl _ (box_below w o)
  have r4 : ∀ o, (w.alloc o).cell? ⟨0, 34, none⟩ = some (.bool true) := fun o => rule_cell HEV.out.2.1 34 1 rfl _ (box_below w o)
  have r5 : ∀ o, (w.alloc o).cell? ⟨0, 35, none⟩ = some (.bool true) := fun o => rule_cell HEV.out.2.1 35 1 rfl _ (box_below w o)
  have d0 : ∀ o p, ((w.alloc o).alloc p).cell? ⟨D, 0, none⟩ = _ := fun o p => cell_keep ((box_below w o).alloc (by simp) p) hD0
  have d2 : ∀ o p, ((w.alloc o).alloc p).cell? ⟨D, 2, none⟩ = _ := fun o p => cell_keep ((box_below w o).alloc (by simp) p) hD2
  have d3 : ∀ o p, ((w.alloc o).alloc p).cell? ⟨D, 3, none⟩ = _ := fun o p => cell_keep ((box_below w o).alloc (by simp) p) hD3
  have hEq := eq_rule5
  obtain ⟨W, hW⟩ : ∃ W, W = (w.alloc (.cells #[.int .u8 5, .string X, .string V, .int .i64 (Ptr.par l i)] 32)).alloc (.cells #[.bool false, .bool true, .bool false, .bool true, .bool true, .bool true] 99) := ⟨_, rfl⟩
  have hWb : Below w.heap.size w W := by rw [hW]; exact (box_below w _).alloc (by simp) _
  have HWB := Kept.mk hWb
  have n0 : W.cell? ⟨w.heap.size, 0, none⟩ = some (.int .u8 5) := by rw [hW]; exact box_at w _ _ _ _ rfl
  have n1 : W.cell? ⟨w.heap.size, 1, none⟩ = some (.string X) := by rw [hW]; exact box_at w _ _ _ _ rfl
  have n2 : W.cell? ⟨w.heap.size, 2, none⟩ = some (.string V) := by rw [hW]; exact box_at w _ _ _ _ rfl
  have n3 : W.cell? ⟨w.heap.size, 3, none⟩ = some (.int .i64 (Ptr.par l i)) := by rw [hW]; exact box_at w _ _ _ _ rfl
  have s0 : W.cell? ⟨w.heap.size + 1, 0, none⟩ = some (.bool false) := by rw [hW]; exact box_at2 w _ _ _ _ rfl
  have s1 : W.cell? ⟨w.heap.size + 1, 1, none⟩ = some (.bool true) := by rw [hW]; exact box_at2 w _ _ _ _ rfl
  have s2 : W.cell? ⟨w.heap.size + 1, 2, none⟩ = some (.bool false) := by rw [hW]; exact box_at2 w _ _ _ _ rfl
  have s3 : W.cell? ⟨w.heap.size + 1, 3, none⟩ = some (.bool true) := by rw [hW]; exact box_at2 w _ _ _ _ rfl
  have s4 : W.cell? ⟨w.heap.size + 1, 4, none⟩ = some (.bool true) := by rw [hW]; exact box_at2 w _ _ _ _ rfl
  have s5 : W.cell? ⟨w.heap.size + 1, 5, none⟩ = some (.bool true) := by rw [hW]; exact box_at2 w _ _ _ _ rfl
  have D0 := cell_keep hWb hD0
  have HD0 := Kept.mk D0; have HD2 := Kept.mk (cell_keep hWb hD2); have HD3 := Kept.mk (cell_keep hWb hD3)
  have HNN := Kept.mk n0; have HN1 := Kept.mk n1; have HN2 := Kept.mk n2; have HN3 := Kept.mk n3
  have HBF := Kept.mk hBF
  have e0 := beh_cell n0
  have e1 := beh_cell n1
  have e2 := beh_cell n2
  have e3 := beh_cell n3
  have f0 := beh_cell s0
  have f1 := beh_cell s1
  have f2 := beh_cell s2
  have f3 := beh_cell s3
  have f4 := beh_cell s4
  have f5 := beh_cell s5
  have g0 := beh_cell D0
  have cN := fun (x : Beh W) => name_call1 X x.fin (by rw [hXs]; exact hn) ((hE.below hWb).below x.ok).1
  have cT := fun (x : Beh W) => text_call1 V x.fin (by rw [hVs]; exact hv) ((hE.below hWb).below x.ok).1
  have cW := fun (x : Beh W) => within_any false true false true true true (some ⟨b, off, none⟩) l c (Ptr.par l i) x.fin ((hr.below hWb).below x.ok) (by omega)
  rw [hXd] at cN
  rw [hVd] at cT
  rw [← hVs]
  have hW0 : Ptr.par l i < 0 → withinB true true true l (Ptr.par l i) = true := fun h => by unfold withinB; rw [if_pos h]
  generalize withinB true true true l (Ptr.par l i) = WB at cW hW0 ⊢
  have HW0 := Kept.mk hW0
  clear hW0
  generalize Pch.nameL (Ptr.nam l i) = N at cN ⊢
  generalize Pch.textsL (Ptr.val l i) = T at cT ⊢
  have vE : ∀ z : Bool, decide (Ptr.val l i = []) = z → (if z = true then V.toList = [] else (V.toList == []) = false ∧ V.toList.isEmpty = false) := fun z hz => by
    cases z
    · have h := of_decide_eq_false hz
      rw [← hVl] at h
      exact ⟨by simpa using h, by simpa using h⟩
    · have h := of_decide_eq_true hz
      rw [← hVl] at h
      exact h
  have xE : ∀ z : Bool, decide (Ptr.nam l i = []) = z → (if z = true then X.toList = [] else (X.toList == []) = false ∧ X.toList.isEmpty = false) := fun z hz => by
    cases z
    · have h := of_decide_eq_false hz
      rw [← hXl] at h
      exact ⟨by simpa using h, by simpa using h⟩
    · have h := of_decide_eq_true hz
      rw [← hXl] at h
      exact h
  generalize hy : decide (Ptr.nam l i = []) = Y
  have xZ := xE Y hy
  obtain ⟨P, hPQ⟩ : ∃ P, Ptr.par l i = P := ⟨_, rfl⟩
  rw [hPQ] at q3 e3 cW
  have HP := Kept.mk hPQ
  clear hPQ
  have CN := Kept.mk cN
  have CT := Kept.mk cT
  have CW := Kept.mk cW
  have HVS := Kept.mk hVs
  have HVD := Kept.mk hVd
  have HVL := Kept.mk hVl
  have HXD := Kept.mk hXd
  have HXL := Kept.mk hXl
  have HXS := Kept.mk hXs
  have HWW := Kept.mk hW
  have HPP := Kept.mk hP
  have VE := Kept.mk vE
  clear cN cT cW hVs hVd hVl hXd hXl hXs hV hX hW hP hE hr hn hv hk hWb vE xE hBF hD2 hD3
  generalize hRR : (!Ptr.has2 45 45 (Ptr.val l i) && !decide ((Ptr.val l i).getLast? = some 45)) = R
  have HR := Kept.mk hRR
  generalize hLB : decide (V.size ≤ 65536) = LB
  have HLB := Kept.mk hLB
  clear hRR hLB
  go_enter Tryz.func46, Tryz.ntmps46
  go_wp2
  rw [← HP.out, ← HWW.out, HP.out]
  cases N with
  | true =>
    refine wp_region_beh (by kernel_rfl) (by kernel_rfl) ?_
    repeat
      (refine Qw_step (fun K hK => ?_)
       go_simp
       first
         | (refine hK _ ?_; clear hK K)
         | (apply Exists.intro
            refine ⟨fun _ => ?_, hK _ ?_⟩
            (first | (go_at_call 74; exact Calls.beh_of (CN.out _)))
            clear hK K))
    refine Qw_nil ?_
    rintro _ ⟨⟨w5, hb5⟩, rfl⟩
    go_wp2
    go_ret
    exact ⟨rfl, HWB.out.trans (hb5.mono HWB.out.size)⟩
  | false =>
    cases Y with
    | true =>
      have xz : X.toList = [] := xZ
      clear xZ
      cases LB with
      | true =>
        have hlen : V.size ≤ 65536 := of_decide_eq_true HLB.out
        have v1 : ¬ (65536 : Int) < (V.size : Int) := by omega
        cases T with
        | true =>
          cases WB with
          | true =>
            refine wp_region_beh (by kernel_rfl) (by kernel_rfl) ?_
            repeat
              (refine Qw_step (fun K hK => ?_)
               go_simp
               first
                 | (refine hK _ ?_; clear hK K)
                 | (apply Exists.intro
                    refine ⟨fun _ => ?_, hK _ ?_⟩
                    (first | (go_at_call 74; exact Calls.beh_of (CN.out _)) | (go_at_call 75; exact Calls.beh_of (CT.out _)) | (go_at_call 76; exact Calls.beh_of (CW.out _)))
                    clear hK K))
            refine Qw_nil ?_
            rintro _ ⟨⟨w5, hb5⟩, rfl⟩
            have hbw := HWB.out.trans (hb5.mono HWB.out.size)
            have m0 := cell_keep hb5 HNN.out; have m1 := cell_keep hb5 HN1.out; have m2 := cell_keep hb5 HN2.out; have m3 := cell_keep hb5 HN3.out; have k0 := cell_keep hb5 HD0.out; have k2 := cell_keep hb5 HD2.out; have k3 := cell_keep hb5 HD3.out
            have hBF := HBF.out
            have hPP := HPP.out
            rw [HP.out] at hBF m3 hPP
            have HB5 := Kept.mk hb5; have HBW := Kept.mk hbw
            clear hbw hb5
            by_cases hp : P < 0
            · rw [if_pos hp] at hBF
              have hBS := hBF.symm
              clear hBF
              subst hBS
              have cC := fun wx hx => contains_call V 45 45 wx hlen hx
              have cS := fun wx => suffix_call V 45 wx hlen
              rw [HVD.out] at cC cS
              have hR2 := HR.out
              generalize Ptr.has2 45 45 (Ptr.val l i) = H2 at cC hR2
              generalize decide ((Ptr.val l i).getLast? = some 45) = S2 at cS hR2
              have HR2 := Kept.mk hR2
              have CC := Kept.mk cC; have CS := Kept.mk cS
              clear hR2 cC cS
              cases H2 <;> cases S2
              all_goals
                go_wp2_with (first | (go_at_call 20; refine (CC.out _ (HEV.out.below HBW.out)).mono ?_; rintro e w' ⟨rfl, rfl⟩) | (go_at_call 77; refine (CS.out _).mono ?_; rintro e w' ⟨rfl, rfl⟩))
                go_ret
                exact ⟨ret_bool HR2.out, HBW.out⟩
            · rw [if_neg hp] at hBF
              have k4 := cell_keep HBW.out hBF
              obtain ⟨p, rfl⟩ : ∃ p : Nat, P = p := ⟨P.toNat, by omega⟩
              rw [Int.toNat_natCast] at k4
              have p0 : (0 : Int) ≤ (p : Int) := by omega
              have p1 : (p : Int) < (l.length : Int) := by omega
              clear hp hBF
              have cC := fun wx hx => contains_call V 45 45 wx hlen hx
              have cS := fun wx => suffix_call V 45 wx hlen
              rw [HVD.out] at cC cS
              have hR2 := HR.out
              generalize Ptr.has2 45 45 (Ptr.val l i) = H2 at cC hR2
              generalize decide ((Ptr.val l i).getLast? = some 45) = S2 at cS hR2
              have HR2 := Kept.mk hR2
              have CC := Kept.mk cC; have CS := Kept.mk cS
              clear hR2 cC cS
              cases H2 <;> cases S2
              all_goals
                go_wp2
                go_quiet (fail)
                go_wp2_with (first | (go_at_call 20; refine (CC.out _ (HEV.out.below (below_drewN HBW.out _))).mono ?_; rintro e w' ⟨rfl, rfl⟩) | (go_at_call 77; refine (CS.out _).mono ?_; rintro e w' ⟨rfl, rfl⟩))
                go_ret
                exact ⟨ret_bool HR2.out, below_drewN HBW.out _⟩
          | false =>
            refine wp_region_beh (by kernel_rfl) (by kernel_rfl) ?_
            repeat
              (refine Qw_step (fun K hK => ?_)
               go_simp
               first
                 | (refine hK _ ?_; clear hK K)
                 | (apply Exists.intro
                    refine ⟨fun _ => ?_, hK _ ?_⟩
                    (first | (go_at_call 74; exact Calls.beh_of (CN.out _)) | (go_at_call 75; exact Calls.beh_of (CT.out _)) | (go_at_call 76; exact Calls.beh_of (CW.out _)))
                    clear hK K))
            refine Qw_nil ?_
            rintro _ ⟨⟨w5, hb5⟩, rfl⟩
            go_wp2
            go_ret
            exact ⟨rfl, HWB.out.trans (hb5.mono HWB.out.size)⟩
        | false =>
          refine wp_region_beh (by kernel_rfl) (by kernel_rfl) ?_
          repeat
            (refine Qw_step (fun K hK => ?_)
             go_simp
             first
               | (refine hK _ ?_; clear hK K)
               | (apply Exists.intro
                  refine ⟨fun _ => ?_, hK _ ?_⟩
                  (first | (go_at_call 74; exact Calls.beh_of (CN.out _)) | (go_at_call 75; exact Calls.beh_of (CT.out _)))
                  clear hK K))
          refine Qw_nil ?_
          rintro _ ⟨⟨w5, hb5⟩, rfl⟩
          go_wp2
          go_ret
          exact ⟨rfl, HWB.out.trans (hb5.mono HWB.out.size)⟩
      | false =>
        have hlen : ¬ V.size ≤ 65536 := of_decide_eq_false HLB.out
        have v1 : (65536 : Int) < (V.size : Int) := by omega
        refine wp_region_beh (by kernel_rfl) (by kernel_rfl) ?_
        repeat
          (refine Qw_step (fun K hK => ?_)
           go_simp
           first
             | (refine hK _ ?_; clear hK K)
             | (apply Exists.intro
                refine ⟨fun _ => ?_, hK _ ?_⟩
                (first | (go_at_call 74; exact Calls.beh_of (CN.out _)))
                clear hK K))
        refine Qw_nil ?_
        rintro _ ⟨⟨w5, hb5⟩, rfl⟩
        go_wp2
        go_ret
        exact ⟨rfl, HWB.out.trans (hb5.mono HWB.out.size)⟩
    | false =>
      obtain ⟨xz, xz2⟩ : (X.toList == []) = false ∧ X.toList.isEmpty = false := xZ
      refine wp_region_beh (by kernel_rfl) (by kernel_rfl) ?_
      repeat
        (refine Qw_step (fun K hK => ?_)
         go_simp
         first
           | (refine hK _ ?_; clear hK K)
           | (apply Exists.intro
              refine ⟨fun _ => ?_, hK _ ?_⟩
              (first | (go_at_call 74; exact Calls.beh_of (CN.out _)))
              clear hK K))
      refine Qw_nil ?_
      rintro _ ⟨⟨w5, hb5⟩, rfl⟩
      go_wp2
      go_ret
      exact ⟨rfl, HWB.out.trans (hb5.mono HWB.out.size)⟩
end Go.Proofs.YtemfmidhekdekaaGreatDoor.Wtr
namespace Go.Proofs.YtemfmidhekdekaaGreatDoor.Wtr
open Go Go.RowKit Go.Proofs.YtemfmidhekdekaaGreatDoor.Kb

theorem eq_rule6 (w : World) : (binOp .eql 99 (.agg #[.bool true, .bool true, .bool false, .bool true, .bool true, .bool true]) (.agg #[.bool false, .bool false, .bool false, .bool false, .bool false, .bool false])).run Tryz.prog w = .ok (.bool false) w := by kernel_rfl
set_option maxRecDepth 100000 in
set_option maxHeartbeats 8000000 in
theorem pfits_6 (D gl : Nat) (tp : Int) (A : Option Addr) (l : List Ptr.Nd) (c i : Nat) (w : World) (hD0 : w.cell? ⟨D, 0, none⟩ = some (.slice A l.length c)) (hD2 : w.cell? ⟨D, 2, none⟩ = some (.slice (some ⟨gl, 0, none⟩) l.length l.length)) (hD3 : w.cell? ⟨D, 3, none⟩ = some (.int .i64 tp))
    (hBF : if Ptr.par l i < 0 then tp = Ptr.lastC l (Ptr.par l i) i else w.cell? ⟨gl, (Ptr.par l i).toNat, none⟩ = some (.int .i64 (Ptr.lastC l (Ptr.par l i) i)))
    (hr : RdN w A l) (hi : i < l.length) (hP : -1 ≤ Ptr.par l i ∧ Ptr.par l i < i) (_hl : l.length ≤ 100000) (hn : (Ptr.nam l i).length ≤ 9223372036854775807) (hv : (Ptr.val l i).length ≤ 9223372036854775807) (hE : TEnv w) (hk : Ptr.kin l i = 6) :
    Calls Tryz.prog 46 #[.pointer (some ⟨D, 0, none⟩), .int .i64 i] w fun e w' => e = .returned (.bool (Pch.nameL (Ptr.nam l i) && (decide ((Ptr.val l i).length ≤ 65536) && (Pch.textsL (Ptr.val l i) && (withinB true true true l (Ptr.par l i) && (!Ptr.isXml (Ptr.nam l i) && (!Ptr.has2 63 62 (Ptr.val l i) && Ptr.noBlank (Ptr.val l i)))))))) ∧ Below w.heap.size w w' := by
  obtain ⟨b, off, rfl, q0, q1, q2, q3⟩ := hr.at_ hi
  have HRD := Kept.mk hr
  have HEV := Kept.mk hE
  have HV := Kept.mk hv
  have HN := Kept.mk hn
  have i0 : (0 : Int) ≤ (i : Int) := by omega
  have i1 : (i : Int) < (l.length : Int) := by omega
  simp only at q0 q1 q2 q3
  rw [hk] at q0
  obtain ⟨V, hV⟩ : ∃ V : ByteArray, V = ⟨(Ptr.val l i).toArray⟩ := ⟨_, rfl⟩
  have hVs : V.size = (Ptr.val l i).length := by rw [hV]; show (Ptr.val l i).toArray.size = _; simp
  have hVl : V.toList = Ptr.val l i := by rw [hV, ByteArray.toList_eq]
  have hVd : V.data.toList = Ptr.val l i := by rw [hV]
  obtain ⟨X, hX⟩ : ∃ X : ByteArray, X = ⟨(Ptr.nam l i).toArray⟩ := ⟨_, rfl⟩
  have hXs : X.size = (Ptr.nam l i).length := by rw [hX]; show (Ptr.nam l i).toArray.size = _; simp
  have hXl : X.toList = Ptr.nam l i := by rw [hX, ByteArray.toList_eq]
  have hXd : X.data.toList = Ptr.nam l i := by rw [hX]
  rw [← hV] at q2
  rw [← hX] at q1
  have r0 : ∀ o, (w.alloc o).cell? ⟨0, 36, none⟩ = some (.bool true) := fun o => rule_cell HEV.out.2.1 36 1 rfl _ (box_below w o)
  have r1 : ∀ o, (w.alloc o).cell? ⟨0, 37, none⟩ = some (.bool true) := fun o => rule_cell HEV.out.2.1 37 1 rfl _ (box_below w o)
  have r2 : ∀ o, (w.alloc o).cell? ⟨0, 38, none⟩ = some (.bool false) := fun o => rule_cell HEV.out.2.1 38 0 rfl _ (box_below w o)
  have r3 : ∀ o, (w.alloc o).cell? ⟨0, 39, none⟩ = some (.bool true) := fun o => rule_cell HEV.out.2.1 39 1 rfl _ (box_below w o)
  have r4 : ∀ o, (w.alloc o).cell? ⟨0, 40, none⟩ = some (.bool true) := fun o => rule_cell HEV.out.2.1 40 1 rfl _ (box_below w o)
  have r5 : ∀ o, (w.alloc o).cell? ⟨0, 41, none⟩ = some (.bool true) := fun o => rule_cell HEV.out.2.1 41 1 rfl _ (box_below w o)
  have d0 : ∀ o p, ((w.alloc o).alloc p).cell? ⟨D, 0, none⟩ = _ := fun o p => cell_keep ((box_below w o).alloc (by simp) p) hD0
  have d2 : ∀ o p, ((w.alloc o).alloc p).cell? ⟨D, 2, none⟩ = _ := fun o p => cell_keep ((box_below w o).alloc (by simp) p) hD2
  have d3 : ∀ o p, ((w.alloc o).alloc p).cell? ⟨D, 3, none⟩ = _ := fun o p => cell_keep ((box_below w o).alloc (by simp) p) hD3
  have hEq := eq_rule6
  obtain ⟨W, hW⟩ : ∃ W, W = (w.alloc (.cells #[.int .u8 6, .string X, .string V, .int .i64 (Ptr.par l i)] 32)).alloc (.cells #[.bool true, .bool true, .bool false, .bool true, .bool true, .bool true] 99) := ⟨_, rfl⟩
  have hWb : Below w.heap.size w W := by rw [hW]; exact (box_below w _).alloc (by simp) _
  have HWB := Kept.mk hWb
  have n0 : W.cell? ⟨w.heap.size, 0, none⟩ = some (.int .u8 6) := by rw [hW]; exact box_at w _ _ _ _ rfl
  have n1 : W.cell? ⟨w.heap.size, 1, none⟩ = some (.string X) := by rw [hW]; exact box_at w _ _ _ _ rfl
  have n2 : W.cell? ⟨w.heap.size, 2, none⟩ = some (.string V) := by rw [hW]; exact box_at w _ _ _ _ rfl
  have n3 : W.cell? ⟨w.heap.size, 3, none⟩ = some (.int .i64 (Ptr.par l i)) := by rw [hW]; exact box_at w _ _ _ _ rfl
  have s0 : W.cell? ⟨w.heap.size + 1, 0, none⟩ = some (.bool true) := by rw [hW]; exact box_at2 w _ _ _ _ rfl
  have s1 : W.cell? ⟨w.heap.size + 1, 1, none⟩ = some (.bool true) := by rw [hW]; exact box_at2 w _ _ _ _ rfl
  have s2 : W.cell? ⟨w.heap.size + 1, 2, none⟩ = some (.bool false) := by rw [hW]; exact box_at2 w _ _ _ _ rfl
  have s3 : W.cell? ⟨w.heap.size + 1, 3, none⟩ = some (.bool true) := by rw [hW]; exact box_at2 w _ _ _ _ rfl
  have s4 : W.cell? ⟨w.heap.size + 1, 4, none⟩ = some (.bool true) := by rw [hW]; exact box_at2 w _ _ _ _ rfl
  have s5 : W.cell? ⟨w.heap.size + 1, 5, none⟩ = some (.bool true) := by rw [hW]; exact box_at2 w _ _ _ _ rfl
  have D0 := cell_keep hWb hD0
  have HD0 := Kept.mk D0; have HD2 := Kept.mk (cell_keep hWb hD2); have HD3 := Kept.mk (cell_keep hWb hD3)
  have HNN := Kept.mk n0; have HN1 := Kept.mk n1; have HN2 := Kept.mk n2; have HN3 := Kept.mk n3
  have HBF := Kept.mk hBF
  have e0 := beh_cell n0
  have e1 := beh_cell n1
  have e2 := beh_cell n2
  have e3 := beh_cell n3
  have f0 := beh_cell s0
  have f1 := beh_cell s1
  have f2 := beh_cell s2
  have f3 := beh_cell s3
  have f4 := beh_cell s4
  have f5 := beh_cell s5
  have g0 := beh_cell D0
  have cN := fun (x : Beh W) => name_call1 X x.fin (by rw [hXs]; exact hn) ((hE.below hWb).below x.ok).1
  have cT := fun (x : Beh W) => text_call1 V x.fin (by rw [hVs]; exact hv) ((hE.below hWb).below x.ok).1
  have cW := fun (x : Beh W) => within_any true true false true true true (some ⟨b, off, none⟩) l c (Ptr.par l i) x.fin ((hr.below hWb).below x.ok) (by omega)
  rw [hXd] at cN
  rw [hVd] at cT
  rw [← hVs]
  have hW0 : Ptr.par l i < 0 → withinB true true true l (Ptr.par l i) = true := fun h => by unfold withinB; rw [if_pos h]
  generalize withinB true true true l (Ptr.par l i) = WB at cW hW0 ⊢
  have HW0 := Kept.mk hW0
  clear hW0
  generalize Pch.nameL (Ptr.nam l i) = N at cN ⊢
  generalize Pch.textsL (Ptr.val l i) = T at cT ⊢
  have vE : ∀ z : Bool, decide (Ptr.val l i = []) = z → (if z = true then V.toList = [] else (V.toList == []) = false ∧ V.toList.isEmpty = false) := fun z hz => by
    cases z
    · have h := of_decide_eq_false hz
      rw [← hVl] at h
      exact ⟨by simpa using h, by simpa using h⟩
    · have h := of_decide_eq_true hz
      rw [← hVl] at h
      exact h
  have xE : ∀ z : Bool, decide (Ptr.nam l i = []) = z → (if z = true then X.toList = [] else (X.toList == []) = false ∧ X.toList.isEmpty = false) := fun z hz => by
    cases z
    · have h := of_decide_eq_false hz
      rw [← hXl] at h
      exact ⟨by simpa using h, by simpa using h⟩
    · have h := of_decide_eq_true hz
      rw [← hXl] at h
      exact h
  obtain ⟨P, hPQ⟩ : ∃ P, Ptr.par l i = P := ⟨_, rfl⟩
  rw [hPQ] at q3 e3 cW
  have HP := Kept.mk hPQ
  clear hPQ
  have CN := Kept.mk cN
  have CT := Kept.mk cT
  have CW := Kept.mk cW
  have HVS := Kept.mk hVs
  have HVD := Kept.mk hVd
  have HVL := Kept.mk hVl
  have HXD := Kept.mk hXd
  have HXL := Kept.mk hXl
  have HXS := Kept.mk hXs
  have HWW := Kept.mk hW
  have HPP := Kept.mk hP
  have VE := Kept.mk vE
  clear cN cT cW hVs hVd hVl hXd hXl hXs hV hX hW hP hE hr hn hv hk hWb vE xE hBF hD2 hD3
  generalize hRR : (!Ptr.isXml (Ptr.nam l i) && (!Ptr.has2 63 62 (Ptr.val l i) && Ptr.noBlank (Ptr.val l i))) = R
  have HR := Kept.mk hRR
  generalize hLB : decide (V.size ≤ 65536) = LB
  have HLB := Kept.mk hLB
  clear hRR hLB
  go_enter Tryz.func46, Tryz.ntmps46
  go_wp2
  rw [← HP.out, ← HWW.out, HP.out]
  cases N with
  | true =>
    cases LB with
    | true =>
      have hlen : V.size ≤ 65536 := of_decide_eq_true HLB.out
      have v1 : ¬ (65536 : Int) < (V.size : Int) := by omega
      cases T with
      | true =>
        cases WB with
        | true =>
          refine wp_region_beh (by kernel_rfl) (by kernel_rfl) ?_
          repeat
            (refine Qw_step (fun K hK => ?_)
             go_simp
             first
               | (refine hK _ ?_; clear hK K)
               | (apply Exists.intro
                  refine ⟨fun _ => ?_, hK _ ?_⟩
                  (first | (go_at_call 74; exact Calls.beh_of (CN.out _)) | (go_at_call 75; exact Calls.beh_of (CT.out _)) | (go_at_call 76; exact Calls.beh_of (CW.out _)))
                  clear hK K))
          refine Qw_nil ?_
          rintro _ ⟨⟨w5, hb5⟩, rfl⟩
          have hbw := HWB.out.trans (hb5.mono HWB.out.size)
          have m0 := cell_keep hb5 HNN.out; have m1 := cell_keep hb5 HN1.out; have m2 := cell_keep hb5 HN2.out; have m3 := cell_keep hb5 HN3.out; have k0 := cell_keep hb5 HD0.out; have k2 := cell_keep hb5 HD2.out; have k3 := cell_keep hb5 HD3.out
          have hBF := HBF.out
          have hPP := HPP.out
          rw [HP.out] at hBF m3 hPP
          have HB5 := Kept.mk hb5; have HBW := Kept.mk hbw
          clear hbw hb5
          by_cases hp : P < 0
          · rw [if_pos hp] at hBF
            have hBS := hBF.symm
            clear hBF
            subst hBS
            have cE := fun wx hx => fold_any X wx (by rw [HXS.out]; exact HN.out) hx
            have cC := fun wx hx => contains_call V 63 62 wx hlen hx
            rw [HVD.out] at cC
            rw [HXD.out] at cE
            have hB := blank_head1 V (Ptr.val l i) HVD.out
            have hB0 : Ptr.val l i = [] → Ptr.noBlank (Ptr.val l i) = true := fun e => by rw [e]; rfl
            have hR2 := HR.out
            generalize Ptr.isXml (Ptr.nam l i) = E2 at cE hR2
            generalize Ptr.has2 63 62 (Ptr.val l i) = H2 at cC hR2
            generalize Ptr.noBlank (Ptr.val l i) = B2 at hB hB0 hR2
            have HR2 := Kept.mk hR2
            have CC := Kept.mk cC; have CE := Kept.mk cE; have HBB := Kept.mk hB; have HB0 := Kept.mk hB0; have HM2 := Kept.mk m2
            clear hR2 cC cE hB hB0
            cases E2 with
            | true =>
              go_wp2_with (first | (go_at_call 78; refine (CE.out _ (HEV.out.below HBW.out).2.2.1).mono ?_; rintro e w6 ⟨rfl, hb6⟩; have m2 := cell_keep hb6 HM2.out) | (go_at_call 20; refine (CC.out _ ((HEV.out.below HBW.out).below hb6)).mono ?_; rintro e w' ⟨rfl, rfl⟩) | (go_at_call 54; refine (CB.out _).mono ?_; rintro e w7 ⟨rfl, hb7⟩))
              go_ret
              exact ⟨ret_bool HR2.out, HBW.out.trans (hb6.mono HBW.out.size)⟩
            | false =>
              cases H2 with
              | true =>
                go_wp2_with (first | (go_at_call 78; refine (CE.out _ (HEV.out.below HBW.out).2.2.1).mono ?_; rintro e w6 ⟨rfl, hb6⟩; have m2 := cell_keep hb6 HM2.out) | (go_at_call 20; refine (CC.out _ ((HEV.out.below HBW.out).below hb6)).mono ?_; rintro e w' ⟨rfl, rfl⟩) | (go_at_call 54; refine (CB.out _).mono ?_; rintro e w7 ⟨rfl, hb7⟩))
                go_ret
                exact ⟨ret_bool HR2.out, HBW.out.trans (hb6.mono HBW.out.size)⟩
              | false =>
                by_cases hz : Ptr.val l i = []
                · have vz : V.toList = [] := VE.out true (decide_eq_true hz)
                  obtain rfl : B2 = true := HB0.out hz
                  clear hz
                  go_wp2_with (first | (go_at_call 78; refine (CE.out _ (HEV.out.below HBW.out).2.2.1).mono ?_; rintro e w6 ⟨rfl, hb6⟩; have m2 := cell_keep hb6 HM2.out) | (go_at_call 20; refine (CC.out _ ((HEV.out.below HBW.out).below hb6)).mono ?_; rintro e w' ⟨rfl, rfl⟩) | (go_at_call 54; refine (CB.out _).mono ?_; rintro e w7 ⟨rfl, hb7⟩))
                  go_ret
                  exact ⟨ret_bool HR2.out, HBW.out.trans (hb6.mono HBW.out.size)⟩
                · obtain ⟨vz, vz2⟩ : (V.toList == []) = false ∧ V.toList.isEmpty = false := VE.out false (decide_eq_false hz)
                  obtain ⟨B3, rfl, b1, cB⟩ := HBB.out hz hlen
                  have b2 : (1 : Int) ≤ (V.size : Int) := by omega
                  have CB := Kept.mk cB
                  clear hz cB
                  cases B3
                  all_goals
                    go_wp2_with (first | (go_at_call 78; refine (CE.out _ (HEV.out.below HBW.out).2.2.1).mono ?_; rintro e w6 ⟨rfl, hb6⟩; have m2 := cell_keep hb6 HM2.out) | (go_at_call 20; refine (CC.out _ ((HEV.out.below HBW.out).below hb6)).mono ?_; rintro e w' ⟨rfl, rfl⟩) | (go_at_call 54; refine (CB.out _).mono ?_; rintro e w7 ⟨rfl, hb7⟩))
                    go_ret
                    exact ⟨ret_bool HR2.out, (HBW.out.trans (hb6.mono HBW.out.size)).trans (hb7.mono (HBW.out.trans (hb6.mono HBW.out.size)).size)⟩
          · rw [if_neg hp] at hBF
            have k4 := cell_keep HBW.out hBF
            obtain ⟨p, rfl⟩ : ∃ p : Nat, P = p := ⟨P.toNat, by omega⟩
            rw [Int.toNat_natCast] at k4
            have p0 : (0 : Int) ≤ (p : Int) := by omega
            have p1 : (p : Int) < (l.length : Int) := by omega
            clear hp hBF
            have cE := fun wx hx => fold_any X wx (by rw [HXS.out]; exact HN.out) hx
            have cC := fun wx hx => contains_call V 63 62 wx hlen hx
            rw [HVD.out] at cC
            rw [HXD.out] at cE
            have hB := blank_head1 V (Ptr.val l i) HVD.out
            have hB0 : Ptr.val l i = [] → Ptr.noBlank (Ptr.val l i) = true := fun e => by rw [e]; rfl
            have hR2 := HR.out
            generalize Ptr.isXml (Ptr.nam l i) = E2 at cE hR2
            generalize Ptr.has2 63 62 (Ptr.val l i) = H2 at cC hR2
            generalize Ptr.noBlank (Ptr.val l i) = B2 at hB hB0 hR2
            have HR2 := Kept.mk hR2
            have CC := Kept.mk cC; have CE := Kept.mk cE; have HBB := Kept.mk hB; have HB0 := Kept.mk hB0; have HM2 := Kept.mk m2
            clear hR2 cC cE hB hB0
            cases E2 with
            | true =>
              go_wp2
              go_quiet (fail)
              go_wp2_with (first | (go_at_call 78; refine (CE.out _ (HEV.out.below (below_drewN HBW.out nq)).2.2.1).mono ?_; rintro e w6 ⟨rfl, hb6⟩; have m2 := cell_keep hb6 HM2.out) | (go_at_call 20; refine (CC.out _ ((HEV.out.below (below_drewN HBW.out nq)).below hb6)).mono ?_; rintro e w' ⟨rfl, rfl⟩) | (go_at_call 54; refine (CB.out _).mono ?_; rintro e w7 ⟨rfl, hb7⟩))
              go_ret
              exact ⟨ret_bool HR2.out, (below_drewN HBW.out nq).trans (hb6.mono (below_drewN HBW.out nq).size)⟩
            | false =>
              cases H2 with
              | true =>
                go_wp2
                go_quiet (fail)
                go_wp2_with (first | (go_at_call 78; refine (CE.out _ (HEV.out.below (below_drewN HBW.out nq)).2.2.1).mono ?_; rintro e w6 ⟨rfl, hb6⟩; have m2 := cell_keep hb6 HM2.out) | (go_at_call 20; refine (CC.out _ ((HEV.out.below (below_drewN HBW.out nq)).below hb6)).mono ?_; rintro e w' ⟨rfl, rfl⟩) | (go_at_call 54; refine (CB.out _).mono ?_; rintro e w7 ⟨rfl, hb7⟩))
                go_ret
                exact ⟨ret_bool HR2.out, (below_drewN HBW.out nq).trans (hb6.mono (below_drewN HBW.out nq).size)⟩
              | false =>
                by_cases hz : Ptr.val l i = []
                · have vz : V.toList = [] := VE.out true (decide_eq_true hz)
                  obtain rfl : B2 = true := HB0.out hz
                  clear hz
                  go_wp2
                  go_quiet (fail)
                  go_wp2_with (first | (go_at_call 78; refine (CE.out _ (HEV.out.below (below_drewN HBW.out nq)).2.2.1).mono ?_; rintro e w6 ⟨rfl, hb6⟩; have m2 := cell_keep hb6 HM2.out) | (go_at_call 20; refine (CC.out _ ((HEV.out.below (below_drewN HBW.out nq)).below hb6)).mono ?_; rintro e w' ⟨rfl, rfl⟩) | (go_at_call 54; refine (CB.out _).mono ?_; rintro e w7 ⟨rfl, hb7⟩))
                  go_ret
                  exact ⟨ret_bool HR2.out, (below_drewN HBW.out nq).trans (hb6.mono (below_drewN HBW.out nq).size)⟩
                · obtain ⟨vz, vz2⟩ : (V.toList == []) = false ∧ V.toList.isEmpty = false := VE.out false (decide_eq_false hz)
                  obtain ⟨B3, rfl, b1, cB⟩ := HBB.out hz hlen
                  have b2 : (1 : Int) ≤ (V.size : Int) := by omega
                  have CB := Kept.mk cB
                  clear hz cB
                  cases B3
                  all_goals
                    go_wp2
                    go_quiet (fail)
                    go_wp2_with (first | (go_at_call 78; refine (CE.out _ (HEV.out.below (below_drewN HBW.out nq)).2.2.1).mono ?_; rintro e w6 ⟨rfl, hb6⟩; have m2 := cell_keep hb6 HM2.out) | (go_at_call 20; refine (CC.out _ ((HEV.out.below (below_drewN HBW.out nq)).below hb6)).mono ?_; rintro e w' ⟨rfl, rfl⟩) | (go_at_call 54; refine (CB.out _).mono ?_; rintro e w7 ⟨rfl, hb7⟩))
                    go_ret
                    exact ⟨ret_bool HR2.out, ((below_drewN HBW.out nq).trans (hb6.mono (below_drewN HBW.out nq).size)).trans (hb7.mono ((below_drewN HBW.out nq).trans (hb6.mono (below_drewN HBW.out nq).size)).size)⟩
        | false =>
          refine wp_region_beh (by kernel_rfl) (by kernel_rfl) ?_
          repeat
            (refine Qw_step (fun K hK => ?_)
             go_simp
             first
               | (refine hK _ ?_; clear hK K)
               | (apply Exists.intro
                  refine ⟨fun _ => ?_, hK _ ?_⟩
                  (first | (go_at_call 74; exact Calls.beh_of (CN.out _)) | (go_at_call 75; exact Calls.beh_of (CT.out _)) | (go_at_call 76; exact Calls.beh_of (CW.out _)))
                  clear hK K))
          refine Qw_nil ?_
          rintro _ ⟨⟨w5, hb5⟩, rfl⟩
          go_wp2
          go_ret
          exact ⟨rfl, HWB.out.trans (hb5.mono HWB.out.size)⟩
      | false =>
        refine wp_region_beh (by kernel_rfl) (by kernel_rfl) ?_
        repeat
          (refine Qw_step (fun K hK => ?_)
           go_simp
           first
             | (refine hK _ ?_; clear hK K)
             | (apply Exists.intro
                refine ⟨fun _ => ?_, hK _ ?_⟩
                (first | (go_at_call 74; exact Calls.beh_of (CN.out _)) | (go_at_call 75; exact Calls.beh_of (CT.out _)))
                clear hK K))
        refine Qw_nil ?_
        rintro _ ⟨⟨w5, hb5⟩, rfl⟩
        go_wp2
        go_ret
        exact ⟨rfl, HWB.out.trans (hb5.mono HWB.out.size)⟩
    | false =>
      have hlen : ¬ V.size ≤ 65536 := of_decide_eq_false HLB.out
      have v1 : (65536 : Int) < (V.size : Int) := by omega
      refine wp_region_beh (by kernel_rfl) (by kernel_rfl) ?_
      repeat
        (refine Qw_step (fun K hK => ?_)
         go_simp
         first
           | (refine hK _ ?_; clear hK K)
           | (apply Exists.intro
              refine ⟨fun _ => ?_, hK _ ?_⟩
              (first | (go_at_call 74; exact Calls.beh_of (CN.out _)))
              clear hK K))
      refine Qw_nil ?_
      rintro _ ⟨⟨w5, hb5⟩, rfl⟩
      go_wp2
      go_ret
      exact ⟨rfl, HWB.out.trans (hb5.mono HWB.out.size)⟩
  | false =>
    refine wp_region_beh (by kernel_rfl) (by kernel_rfl) ?_
    repeat
      (refine Qw_step (fun K hK => ?_)
       go_simp
       first
         | (refine hK _ ?_; clear hK K)
         | (apply Exists.intro
            refine ⟨fun _ => ?_, hK _ ?_⟩
            (first | (go_at_call 74; exact Calls.beh_of (CN.out _)))
            clear hK K))
    refine Qw_nil ?_
    rintro _ ⟨⟨w5, hb5⟩, rfl⟩
    go_wp2
    go_ret
    exact ⟨rfl, HWB.out.trans (hb5.mono HWB.out.size)⟩
end Go.Proofs.YtemfmidhekdekaaGreatDoor.Wtr
