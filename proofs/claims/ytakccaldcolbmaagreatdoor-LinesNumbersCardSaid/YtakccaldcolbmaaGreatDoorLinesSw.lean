/- The walk over LinesShows (chapter 31). -/
import Derived.Test.YtakccaldcolbmaaGreatDoorLinesRs
import Derived.Test.YtakccaldcolbmaaGreatDoorLinesLc
import Derived.Test.YtakccaldcolbmaaGreatDoorFlatBagTexts
namespace Go.Proofs.YtakccaldcolbmaaGreatDoor.Wln
open Go Go.RowKit Go.Proofs.YtakccaldcolbmaaGreatDoor.Kb

/-- an item as it may come -/
def OkI (x : It) : Prop := x.1 < 256 ∧ x.2.1 < 256 ∧ x.2.2.1.length ≤ 140737488355328 ∧ x.2.2.2.1.length ≤ 140737488355328 ∧ -9223372036854775808 ≤ x.2.2.2.2 ∧ x.2.2.2.2 ≤ 9223372036854775807
/-- how much items weigh -/
def cnt (l : List It) : Nat := (l.map fun x => 1 + x.2.2.1.length + x.2.2.2.1.length).sum
theorem cnt_step {l : List It} {k : Nat} {x : It} (h : l[k]? = some x) : cnt (l.take (k + 1)) = cnt (l.take k) + 1 + x.2.2.1.length + x.2.2.2.1.length := by
  unfold cnt
  rw [List.take_add_one, h]
  simp
  omega
theorem cnt_mem : ∀ (l : List It) (x : It), x ∈ l → x.2.2.1.length + x.2.2.2.1.length ≤ cnt l
  | y :: l, x, h => by
    have e : cnt (y :: l) = (1 + y.2.2.1.length + y.2.2.2.1.length) + cnt l := by simp [cnt]
    rw [e]
    rcases List.mem_cons.1 h with rfl | h
    · omega
    · have := cnt_mem l x h
      omega
theorem cnt_len : ∀ l : List It, l.length ≤ cnt l
  | [] => Nat.zero_le _
  | y :: l => by
    have e : cnt (y :: l) = (1 + y.2.2.1.length + y.2.2.2.1.length) + cnt l := by simp [cnt]
    have := cnt_len l
    rw [e, List.length_cons]
    omega
set_option maxRecDepth 100000 in
set_option maxHeartbeats 4000000 in
theorem law_shows (A : Option Addr) (l : List It) (c : Nat) (s : ByteArray) (w : World) (hE : LEnv w) (hr : RdI w A l) (hc : A = none → c = 0) (hl : l.length ≤ 2999999999999) (hf : ∀ x ∈ l, OkI x) (hs : s.size ≤ 140737488355328) :
    Calls Tryz.prog 3 #[.slice A l.length c, .string s] w fun e w' => e = .returned (.bool true) ∧ Below w.heap.size w w' := by
  have CA : Kept (∀ d, Calls Tryz.prog 5 #[] (w.drewN d) fun e w' => e = .returned (.bool true) ∧ Below w.heap.size w w') := ⟨fun d => (awake_any _ (hE.below (drewN_below w d))).mono fun e w' h => ⟨h.1, (drewN_below w d).trans h.2⟩⟩
  have HR := Kept.mk hr
  have HC := Kept.mk hc
  have HF := Kept.mk hf
  have HE := Kept.mk hE
  clear hr hc hf hE
  go_enter Tryz.func3, Tryz.ntmps3
  go_wp2
  go_loopw [5, 6] (fun T i wx => ∃ k d : Nat, T = .int .i64 ((s.size + cnt (l.take k) : Nat) : Int) ∧ i = .int .i64 (k : Int) ∧ k ≤ l.length ∧ wx = w.drewN d) (fun _ i _ => l.length - (intOf i).toNat)
  case atStart => exact ⟨0, 0, rfl, rfl, by omega, rfl⟩
  case round =>
    obtain ⟨k, d, rfl, rfl, hk, rfl⟩ := hrel
    have k0 : (0 : Int) ≤ (k : Int) := by omega
    by_cases hT : s.size + cnt (l.take k) ≤ 70000
    · by_cases hlt : k < l.length
      · have k1 : (k : Int) < (l.length : Int) := by omega
        obtain ⟨x, hx⟩ : ∃ x, l[k]? = some x := ⟨_, List.getElem?_eq_getElem hlt⟩
        obtain ⟨g, off, rfl, x0, x1, x2, x3, x4⟩ := HR.out k x hx
        obtain ⟨_, _, f3, f4, _, _⟩ := HF.out _ (List.mem_of_getElem? hx)
        have HTS := Kept.mk (cnt_step hx)
        obtain ⟨a, b, nm, tx, n⟩ := x
        simp only at x0 x1 x2 x3 x4 f3 f4 HTS
        clear hx x0 x1 x4
        generalize cnt (l.take k) = T0 at hT HTS
        obtain ⟨T1, hT1⟩ : ∃ T1, T1 = s.size + T0 := ⟨_, rfl⟩
        rw [← hT1] at hT ⊢
        have hT2 : (T1 : Int) ≤ 70000 := by omega
        have t1 : IntKind.i64.wrap ((T1 : Int) + 1) = (T1 : Int) + 1 := by rw [IntKind.wrap_i64]; omega
        have t2 : IntKind.i64.wrap ((T1 : Int) + 1 + (nm.length : Int)) = (T1 : Int) + 1 + (nm.length : Int) := by rw [IntKind.wrap_i64]; omega
        have t3 : IntKind.i64.wrap ((T1 : Int) + 1 + (nm.length : Int) + (tx.length : Int)) = (T1 : Int) + 1 + (nm.length : Int) + (tx.length : Int) := by rw [IntKind.wrap_i64]; omega
        have HT1 := Kept.mk hT1
        clear hT1
        go_wp2
        go_quiet (fail)
        go_wp2
        go_roundw
        case rel => exact ⟨k + 1, d + nq, by rw [HTS.out]; have := HT1.out; go_num, by go_num, by omega, rfl⟩
        case measure => simp [intOf]; omega
      · obtain rfl : k = l.length := by omega
        rw [List.take_of_length_le (Nat.le_refl _)] at hT ⊢
        have hll : l.length ≤ 70000 := by have := cnt_len l; omega
        have hfit : ∀ x ∈ l, FitI x := fun x hx => by
          obtain ⟨f1, f2, f3, f4, f5, f6⟩ := HF.out x hx
          have := cnt_mem l x hx
          exact ⟨f1, f2, by omega, by omega, f5, f6⟩
        have hsz : s.size ≤ 100000 := by omega
        have HFT := Kept.mk hfit
        obtain ⟨T1, hT1⟩ : ∃ T1, T1 = s.size + cnt l := ⟨_, rfl⟩
        rw [← hT1] at hT ⊢
        have hT2 : ¬ (70000 : Int) < (T1 : Int) := by omega
        have hT3 : (T1 : Int) ≤ 70000 := by omega
        have R5 := Kept.mk (HR.out.below (drewN_below w d))
        have E5 := Kept.mk (HE.out.below (drewN_below w d))
        have B5 := Kept.mk (drewN_below w d)
        clear hT1 hfit CA HR HE HF hl hT k0
        generalize w.drewN d = W5 at R5 E5 B5 ⊢
        have hz5 := B5.out.size
        obtain ⟨Q, hQ⟩ : ∃ Q : ByteArray, Q = ⟨(Pln.quoL s.data.toList).toArray⟩ := ⟨_, rfl⟩
        have CQ : Kept (∀ wx, Calls Tryz.prog 11 #[.string s] wx fun e w' => e = .returned (.string Q) ∧ Below wx.heap.size wx w') := ⟨fun wx => by rw [hQ]; exact Quote_any s wx (by omega)⟩
        have CRQ : Kept (∀ wx, Calls Tryz.prog 12 #[.string s] wx fun e w' => e = .returned (.string Q) ∧ Below wx.heap.size wx w') := ⟨fun wx => by rw [hQ]; exact refQuote_any s wx (by omega)⟩
        have CT : Kept (∀ A1 A2 c1 c2 wx, RdS wx A1 (l.map showL) → RdS wx A2 (l.map showL) → Calls Tryz.prog 10 #[.slice A1 l.length c1, .slice A2 l.length c2] wx fun e w' => e = .returned (.bool true) ∧ Below wx.heap.size wx w') := ⟨fun A1 A2 c1 c2 wx h1 h2 => by
          have := sameTexts_any (l.map showL) A1 A2 c1 c2 wx h1 h2 (by rw [List.length_map]; omega)
          rwa [List.length_map] at this⟩
        clear hQ
        go_wp2_with (fail)
        refine (lentShowns_any A l c W5 R5.out HC.out (by omega)).mono ?_; rintro e w1 ⟨rfl, ho1, hb1⟩
        have B1 := Kept.mk hb1
        have hI := rdi_own ho1 (by simp [marksI_len])
        have RM := Kept.mk hI
        have RI := Kept.mk (rdi_left hI)
        have E1 := Kept.mk (E5.out.below hb1)
        have hz1 := hb1.size
        clear ho1 hb1 hI
        go_wp2_with (fail)
        refine (Shown_any (some ⟨W5.heap.size, 0, none⟩) (l.length + 12) l w1 E1.out RI.out (by omega) HFT.out).mono ?_; rintro e w2 ⟨v2, rfl, ho2, hb2⟩
        obtain ⟨A2, c2, rfl, _⟩ := own_shapeS ho2
        have O2 := Kept.mk (Flt.own_low ho2 hz1)
        have B2 := Kept.mk (B1.out.trans (hb2.mono hz1))
        have RM2 := Kept.mk (RM.out.below hb2)
        have RI2 := Kept.mk (RI.out.below hb2)
        have E2 := Kept.mk (E1.out.below hb2)
        have hlt2 := ho2.lt
        clear hb2 ho2 RM RI E1 B1
        go_wp2_with (fail)
        refine (Shown_any (some ⟨W5.heap.size, 0, none⟩) (l.length + 12) l w2 E2.out RI2.out (by omega) HFT.out).mono ?_; rintro e w3 ⟨v3, rfl, ho3, hb3⟩
        obtain ⟨A3, c3, rfl, _⟩ := own_shapeS ho3
        have hfar : Flt.Far (.slice A2 l.length c2) (.slice A3 l.length c3) := by
          unfold Flt.Far
          cases h : (Value.slice A2 l.length c2).ownBlock with
          | none => exact .inl rfl
          | some g =>
            refine .inr fun e => ?_
            have h1 := (hlt2 g h).2
            have h2 := (ho3.lt g e.symm).1
            omega
        have FR := Kept.mk hfar
        have hz2 := B2.out.size
        have O3 := Kept.mk (Flt.own_low ho3 hz2)
        have O2a := Kept.mk (Flt.own_below O2.out hb3)
        have B3 := Kept.mk (B2.out.trans (hb3.mono hz2))
        have RM3 := Kept.mk (RM2.out.below hb3)
        clear hb3 ho3 RM2 RI2 E2 B2 O2 hfar hlt2
        have hz3 := B3.out.size
        go_wp2_with (fail)
        refine (keptShowns_any W5.heap.size A l c w3 RM3.out (R5.out.below B3.out) (by omega)).mono ?_; rintro e w4 ⟨rfl, hb4⟩
        have O3a := Kept.mk (Flt.own_below O3.out hb4)
        have O2b := Kept.mk (Flt.own_below O2a.out hb4)
        have B4 := Kept.mk (B3.out.trans (hb4.mono hz3))
        clear hb4 RM3 B3 O2a O3
        have hz4 := B4.out.size
        go_wp2_with (fail)
        refine (refShown_any A c l w4 (R5.out.below B4.out) (by omega) HFT.out).mono ?_; rintro e w5 ⟨v5, rfl, ho5, hb5⟩
        obtain ⟨A5, c5, rfl, _⟩ := own_shapeS ho5
        have RC := Kept.mk (rds_own ho5 (List.length_map _))
        have O3b := Kept.mk (Flt.own_below O3a.out hb5)
        have O2c := Kept.mk (Flt.own_below O2b.out hb5)
        have B6 := Kept.mk (B4.out.trans (hb5.mono hz4))
        clear hb5 ho5 B4 O2b O3a R5 HFT
        have hz6 := B6.out.size
        go_wp2_with (fail)
        refine (CT.out _ _ _ _ w5 (rds_own O2c.out (List.length_map _)) RC.out).mono ?_; rintro e w6 ⟨rfl, hb6⟩
        have O3c := Kept.mk (Flt.own_below O3b.out hb6)
        have O2d := Kept.mk (Flt.own_below O2c.out hb6)
        have RC1 := Kept.mk (RC.out.below hb6)
        have B7 := Kept.mk (B6.out.trans (hb6.mono hz6))
        clear hb6 B6 O2c O3b RC
        have hz7 := B7.out.size
        go_wp2_with (fail)
        refine (CT.out _ _ _ _ w6 (rds_own O3c.out (List.length_map _)) RC1.out).mono ?_; rintro e w7 ⟨rfl, hb7⟩
        have O3d := Kept.mk (Flt.own_below O3c.out hb7)
        have O2e := Kept.mk (Flt.own_below O2d.out hb7)
        have B8 := Kept.mk (B7.out.trans (hb7.mono hz7))
        clear hb7 B7 O2d O3c RC1
        have hz8 := B8.out.size
        go_wp2_with (fail)
        refine (CQ.out w7).mono ?_; rintro e w8 ⟨rfl, hb8⟩
        have O3e := Kept.mk (Flt.own_below O3d.out hb8)
        have O2f := Kept.mk (Flt.own_below O2e.out hb8)
        have B9 := Kept.mk (B8.out.trans (hb8.mono hz8))
        clear hb8 B8 O2e O3d
        have hz9 := B9.out.size
        go_wp2_with (fail)
        refine (CRQ.out w8).mono ?_; rintro e w9 ⟨rfl, hb9⟩
        have O3f := Kept.mk (Flt.own_below O3e.out hb9)
        have O2g := Kept.mk (Flt.own_below O2f.out hb9)
        have B10 := Kept.mk (B9.out.trans (hb9.mono hz9))
        clear hb9 B9 O2f O3e
        have hz10 := B10.out.size
        go_wp2_with (fail)
        have AL : Kept (Below w9.heap.size w9 (w9.alloc (.cells #[.slice A2 l.length c2, .slice A3 l.length c3] 29))) := ⟨(Below.refl _ _).alloc (Nat.le_refl _) _⟩
        have B11 := Kept.mk (B10.out.trans (AL.out.mono hz10))
        have hA := Flt.apartTextsList_any W5.heap.size 2 w9.heap.size 2 [.slice A2 l.length c2, .slice A3 l.length c3] (fun _ => l.length) (fun _ => stC (l.map showL)) (w9.alloc (.cells #[.slice A2 l.length c2, .slice A3 l.length c3] 29)) (by omega) (by omega) rfl (fun _ => by omega) B11.out.size
          (fun j v hv => by
            rw [World.cell?_alloc_new, ← Array.getElem?_toList]
            exact hv)
          (fun j v hv => by
            match j, hv with
            | 0, hv => cases hv; exact Flt.own_below O2g.out AL.out
            | 1, hv => cases hv; exact Flt.own_below O3f.out AL.out
            | j + 2, hv => simp at hv)
          (fun j k u v hjk hu hv => by
            match j, k, hu, hv, hjk with
            | 0, 0, _, _, h => exact absurd rfl h
            | 0, 1, hu, hv, _ => cases hu; cases hv; exact FR.out
            | 1, 0, hu, hv, _ => cases hu; cases hv; exact FR.out.symm
            | 1, 1, _, _, h => exact absurd rfl h
            | 0, k + 2, _, hv, _ => simp at hv
            | 1, k + 2, _, hv, _ => simp at hv
            | j + 2, _, hu, _, _ => simp at hu)
        refine hA.mono ?_; rintro e w10 ⟨rfl, hb10⟩
        have B12 := Kept.mk (B11.out.trans hb10)
        clear hb10 hA
        go_wp2_with (fail)
        refine (awake_any _ (E5.out.below B12.out)).mono ?_; rintro e w11 ⟨rfl, hb11⟩
        have B13 := Kept.mk (B12.out.trans (hb11.mono B12.out.size))
        clear hb11
        go_wp2_with (fail)
        go_ret
        exact ⟨rfl, B5.out.trans (B13.out.mono hz5)⟩
    · have hT1 : ¬ ((s.size + cnt (l.take k) : Nat) : Int) ≤ 70000 := by omega
      have hT2 : (70000 : Int) < ((s.size + cnt (l.take k) : Nat) : Int) := by omega
      generalize s.size + cnt (l.take k) = T0 at hT hT1 hT2
      by_cases hlt : k < l.length
      · have k1 : (k : Int) < (l.length : Int) := by omega
        go_wp2_with (fail)
        refine (CA.out d).mono ?_; rintro e w1 ⟨rfl, hb1⟩
        go_wp2_with (fail)
        go_ret
        exact ⟨rfl, hb1⟩
      · obtain rfl : k = l.length := by omega
        go_wp2_with (fail)
        refine (CA.out d).mono ?_; rintro e w1 ⟨rfl, hb1⟩
        go_wp2_with (fail)
        go_ret
        exact ⟨rfl, hb1⟩
end Go.Proofs.YtakccaldcolbmaaGreatDoor.Wln
