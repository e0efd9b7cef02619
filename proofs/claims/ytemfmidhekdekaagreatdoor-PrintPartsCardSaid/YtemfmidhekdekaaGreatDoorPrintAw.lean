/- The walks over great, small, awake (chapter 08). -/
import Derived.Test.YtemfmidhekdekaaGreatDoorPrB
namespace Go.Proofs.YtemfmidhekdekaaGreatDoor.Wpr
open Go Go.RowKit Go.Proofs.YtemfmidhekdekaaGreatDoor.Kb Go.Proofs.YtemfmidhekdekaaGreatDoor.Emk Go.Proofs.YtemfmidhekdekaaGreatDoor.Wtr

/-- how much text nodes hold -/
def sumN (l : List Ptr.Nd) : Nat := (l.map fun x => x.2.2.1.length + x.2.1.length).sum
theorem sumN_step {l : List Ptr.Nd} {k : Nat} (h : k < l.length) : sumN (l.take (k + 1)) = sumN (l.take k) + (Ptr.val l k).length + (Ptr.nam l k).length := by
  unfold sumN
  rw [List.take_add_one, nd_get h]
  simp
  omega
theorem sumN_wt (l : List Ptr.Nd) : ∀ d, d ≤ l.length → Ppr.wt l 0 d ≤ 6 * sumN (l.take d) + 8 * d
  | 0, _ => by rw [Ppr.wt_self]; omega
  | d + 1, h => by
    have ih := sumN_wt l d (by omega)
    have hs := sumN_step (l := l) (k := d) (by omega)
    rw [Ppr.wt_split l 0 d (d + 1) (by omega) (by omega), Ppr.wt_one, hs]
    unfold Ppr.wtN
    omega
theorem sumN_all {l : List Ptr.Nd} (h1 : l.length ≤ 1000) (h2 : sumN l ≤ 60000) : Ppr.wt l 0 l.length ≤ 1000000000 := by
  have := sumN_wt l l.length (Nat.le_refl _)
  rw [List.take_length] at this
  omega
/-- a row as it may come -/
def FitW (l : List Ptr.Nd) : Prop := (∀ i, (Ptr.nam l i).length ≤ 140737488355328 ∧ (Ptr.val l i).length ≤ 140737488355328) ∧ l.length ≤ 2999999999999
theorem drewN_below (w : World) (n : Nat) : Below w.heap.size w (w.drewN n) := ⟨rfl, rfl, rfl, Nat.le_refl _, fun _ _ => rfl⟩
structure GreatIs (l : List Ptr.Nd) (w : World) (e : Ending) (w' : World) : Prop where
  out : ∃ b, e = .returned (.bool b) ∧ (b = false → l.length ≤ 1000 ∧ sumN l ≤ 60000) ∧ Below w.heap.size w w'
set_option maxRecDepth 100000 in
set_option maxHeartbeats 2000000 in
theorem great_any (A : Option Addr) (l : List Ptr.Nd) (c : Nat) (w : World) (hr : RdN w A l) (hf : FitW l) :
    Calls Tryz.prog 10 #[.slice A l.length c] w fun e w' => GreatIs l w e w' := by
  have HR := Kept.mk hr
  have HF := Kept.mk hf
  have hlen := hf.2
  clear hr hf
  go_enter Tryz.func10, Tryz.ntmps10
  go_wp2
  go_loopw [3, 4] (fun T i wx => ∃ k d : Nat, T = .int .i64 (sumN (l.take k) : Int) ∧ i = .int .i64 (k : Int) ∧ k ≤ l.length ∧ wx = w.drewN d) (fun _ i _ => l.length - (intOf i).toNat)
  case atStart => exact ⟨0, 0, rfl, rfl, by omega, rfl⟩
  case round =>
    obtain ⟨k, d, rfl, rfl, hk, rfl⟩ := hrel
    have k0 : (0 : Int) ≤ (k : Int) := by omega
    by_cases hlt : k < l.length
    · have k1 : (k : Int) < (l.length : Int) := by omega
      by_cases hT : sumN (l.take k) ≤ 60000
      · have hT1 : (sumN (l.take k) : Int) ≤ 60000 := by omega
        obtain ⟨g, off, rfl, x0, x1, x2, x3⟩ := HR.out.at_ hlt
        obtain ⟨f3, f4⟩ := HF.out.1 k
        have hts := sumN_step (l := l) hlt
        have HTS := Kept.mk hts
        simp only at x0 x1 x2 x3 f3 f4
        clear hts x0 x3
        generalize sumN (l.take k) = T0 at hT hT1 HTS
        generalize Ptr.val l k = vv at x2 f4 HTS
        generalize Ptr.nam l k = nn at x1 f3 HTS
        have t1 : IntKind.i64.wrap ((T0 : Int) + (vv.length : Int)) = (T0 : Int) + (vv.length : Int) := by rw [IntKind.wrap_i64]; omega
        have t2 : IntKind.i64.wrap ((T0 : Int) + (vv.length : Int) + (nn.length : Int)) = (T0 : Int) + (vv.length : Int) + (nn.length : Int) := by rw [IntKind.wrap_i64]; omega
        go_wp2
        go_quiet (fail)
        go_wp2
        go_roundw
        case rel => exact ⟨k + 1, d + nq, by rw [HTS.out]; go_num, by go_num, by omega, rfl⟩
        case measure => simp [intOf]; omega
      · have hT1 : ¬ (sumN (l.take k) : Int) ≤ 60000 := by omega
        have hT2 : (60000 : Int) < (sumN (l.take k) : Int) := by omega
        generalize sumN (l.take k) = T0 at hT hT1 hT2
        by_cases hb : 1000 < l.length
        · have hb1 : (1000 : Int) < (l.length : Int) := by omega
          go_wp2
          go_ret
          exact ⟨⟨true, rfl, (fun h => by cases h), drewN_below _ _⟩⟩
        · have hb1 : ¬ (1000 : Int) < (l.length : Int) := by omega
          go_wp2
          go_ret
          exact ⟨⟨true, rfl, (fun h => by cases h), drewN_below _ _⟩⟩
    · obtain rfl : k = l.length := by omega
      rw [List.take_length]
      by_cases hb : 1000 < l.length
      · have hb1 : (1000 : Int) < (l.length : Int) := by omega
        go_wp2
        go_ret
        exact ⟨⟨true, rfl, (fun h => by cases h), drewN_below _ _⟩⟩
      · have hb1 : ¬ (1000 : Int) < (l.length : Int) := by omega
        by_cases hT : sumN l ≤ 60000
        · have HT := Kept.mk hT
          have hT2 : ¬ (60000 : Int) < (sumN l : Int) := by omega
          clear hT
          generalize sumN l = T0 at hT2 ⊢
          go_wp2
          go_ret
          exact ⟨⟨false, rfl, (fun _ => ⟨by omega, HT.out⟩), drewN_below _ _⟩⟩
        · have hT2 : (60000 : Int) < (sumN l : Int) := by omega
          generalize sumN l = T0 at hT hT2
          go_wp2
          go_ret
          exact ⟨⟨true, rfl, (fun h => by cases h), drewN_below _ _⟩⟩
def L5 : List Ptr.Nd := [(1, [], [], -1), (2, [97], [], 0), (3, [120], [34, 60, 62, 9], 1), (4, [], [97, 62, 98, 38], 1), (2, [98], [], 1)]
theorem fit5 : FitP L5 := fun i => by
  match i with
  | 0 | 1 | 2 | 3 | 4 => exact ⟨by decide, by decide, by decide⟩
  | i + 5 => exact ⟨by simp [Ptr.nam, L5, Ptr.nd0], by simp [Ptr.val, L5, Ptr.nd0], by simp [Ptr.kin, L5, Ptr.nd0]⟩
theorem wt5 : Ppr.wt L5 0 5 ≤ 1000000000 := by decide +kernel
theorem print5 : Ppr.prR L5 = ([60, 97, 32, 120, 61, 34, 38, 113, 117, 111, 116, 59, 38, 108, 116, 59, 62, 38, 35, 57, 59, 34, 62, 97, 38, 103, 116, 59, 98, 38, 97, 109, 112, 59, 60, 98, 47, 62, 60, 47, 97, 62], 0) := by kernel_rfl
theorem node52 : Ppr.ndR L5 2 = ([120, 61, 34, 38, 113, 117, 111, 116, 59, 38, 108, 116, 59, 62, 38, 35, 57, 59, 34], 0) := by kernel_rfl
theorem node55 : Ppr.ndR L5 5 = ([], 2) := by kernel_rfl
theorem esc3 : Ppr.escL [97, 60, 98] = [97, 38, 108, 116, 59, 98] := by decide +kernel
theorem quo0 : Ppr.quoL [] = [34, 34] := by decide +kernel
set_option maxRecDepth 100000 in
theorem small_any (w : World) : Calls Tryz.prog 21 #[] w fun e w' => e = .returned (.slice (some ⟨w.heap.size, 0, none⟩) 5 5) ∧ RdN w' (some ⟨w.heap.size, 0, none⟩) L5 ∧ Below w.heap.size w w' := by
  have hL := rdn_lit w L5 32
  have HL := Kept.mk hL
  clear hL
  go_enter Tryz.func21, Tryz.ntmps21
  go_wp2
  go_ret
  exact ⟨rfl, HL.out, (Below.refl _ _).alloc (Nat.le_refl _) _⟩
set_option maxRecDepth 100000 in
set_option maxHeartbeats 2000000 in
theorem awake_any (w : World) (hE : TEnv w) : Calls Tryz.prog 6 #[] w fun e w' => e = .returned (.bool true) ∧ Below w.heap.size w w' := by
  have CS := Kept.mk small_any
  have CP : Kept (∀ A wx, TEnv wx → RdN wx A L5 → Calls Tryz.prog 15 #[.slice A 5 5] wx fun e w' => e = .returned (.tuple #[.string ⟨#[60, 97, 32, 120, 61, 34, 38, 113, 117, 111, 116, 59, 38, 108, 116, 59, 62, 38, 35, 57, 59, 34, 62, 97, 38, 103, 116, 59, 98, 38, 97, 109, 112, 59, 60, 98, 47, 62, 60, 47, 97, 62]⟩, .int .i64 0]) ∧ Below wx.heap.size wx w') := ⟨fun A wx hE hr => by
    have h := Print_any A L5 5 wx hr (by decide) fit5 hE wt5
    rw [print5] at h
    exact h⟩
  have CN : Kept (∀ A wx, TEnv wx → RdN wx A L5 → Calls Tryz.prog 13 #[.slice A 5 5, .int .i64 2] wx fun e w' => e = .returned (.tuple #[.string ⟨#[120, 61, 34, 38, 113, 117, 111, 116, 59, 38, 108, 116, 59, 62, 38, 35, 57, 59, 34]⟩, .int .i64 0]) ∧ Below wx.heap.size wx w') := ⟨fun A wx hE hr => by
    have h := Node_any A L5 5 2 wx hr (by decide) fit5 hE wt5
    rw [node52] at h
    exact h⟩
  have CM : Kept (∀ A wx, TEnv wx → RdN wx A L5 → Calls Tryz.prog 13 #[.slice A 5 5, .int .i64 5] wx fun e w' => e = .returned (.tuple #[.string ⟨#[]⟩, .int .i64 2]) ∧ Below wx.heap.size wx w') := ⟨fun A wx hE hr => by
    have h := Node_any A L5 5 5 wx hr (by decide) fit5 hE wt5
    rw [node55] at h
    exact h⟩
  have CE : Kept (∀ wx, Calls Tryz.prog 9 #[.string ⟨#[97, 60, 98]⟩] wx fun e w' => e = .returned (.string ⟨#[97, 38, 108, 116, 59, 98]⟩) ∧ Below wx.heap.size wx w') := ⟨fun wx => by
    have h := Escape_any ⟨#[97, 60, 98]⟩ wx (by decide)
    rw [show (⟨#[97, 60, 98]⟩ : ByteArray).data.toList = [97, 60, 98] from rfl, esc3] at h
    exact h⟩
  have CQ : Kept (∀ wx, Calls Tryz.prog 8 #[.string ⟨#[]⟩] wx fun e w' => e = .returned (.string ⟨#[34, 34]⟩) ∧ Below wx.heap.size wx w') := ⟨fun wx => by
    have h := Quote_any ⟨#[]⟩ wx (by decide)
    rw [show (⟨#[]⟩ : ByteArray).data.toList = [] from rfl, quo0] at h
    exact h⟩
  have HE := Kept.mk hE
  clear hE
  go_enter Tryz.func6, Tryz.ntmps6
  go_wp2_with (fail)
  refine (CS.out _).mono ?_; rintro e w1 ⟨rfl, hr1, hb1⟩
  have B1 := Kept.mk hb1
  go_wp2_with (fail)
  refine (CP.out _ _ (HE.out.below B1.out) hr1).mono ?_; rintro e w2 ⟨rfl, hb2⟩
  have B2 := Kept.mk (B1.out.trans (hb2.mono B1.out.size))
  clear hb1 hr1 hb2
  go_wp2_with (fail)
  refine (CS.out _).mono ?_; rintro e w3 ⟨rfl, hr3, hb3⟩
  have B3 := Kept.mk (B2.out.trans (hb3.mono B2.out.size))
  go_wp2_with (fail)
  refine (CN.out _ _ (HE.out.below B3.out) hr3).mono ?_; rintro e w4 ⟨rfl, hb4⟩
  have B4 := Kept.mk (B3.out.trans (hb4.mono B3.out.size))
  clear hb3 hr3 hb4
  go_wp2_with (fail)
  refine (CS.out _).mono ?_; rintro e w5 ⟨rfl, hr5, hb5⟩
  have B5 := Kept.mk (B4.out.trans (hb5.mono B4.out.size))
  go_wp2_with (fail)
  refine (CM.out _ _ (HE.out.below B5.out) hr5).mono ?_; rintro e w6 ⟨rfl, hb6⟩
  have B6 := Kept.mk (B5.out.trans (hb6.mono B5.out.size))
  clear hb5 hr5 hb6
  go_wp2_with (first
    | (go_at_call 9; refine (CE.out _).mono ?_; rintro e w7 ⟨rfl, hb7⟩; have B7 := Kept.mk (B6.out.trans (hb7.mono B6.out.size)); clear hb7)
    | (go_at_call 8; refine (CQ.out _).mono ?_; rintro e w8 ⟨rfl, hb8⟩; have B8 := Kept.mk (B7.out.trans (hb8.mono B7.out.size)); clear hb8))
  go_ret
  exact ⟨rfl, B8.out⟩
end Go.Proofs.YtemfmidhekdekaaGreatDoor.Wpr
