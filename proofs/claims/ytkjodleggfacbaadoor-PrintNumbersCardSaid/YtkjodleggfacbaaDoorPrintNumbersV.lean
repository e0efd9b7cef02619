/- The walk over PrintNumbers (chapter 08). The statement PrintNumbers of parchment/parchmentlaw08.PrintNumbers: proved over the walk; the frame is alike from law to law. -/
import Derived.Test.YtkjodleggfacbaaDoorPrintLw
import Derived.Test.YtkjodleggfacbaaDoorCards
import Derived.Test.YtkjodleggfacbaaDoorTie
import Derived.WalkKit
import Derived.ProofKit
import Derived.OpenShut
import Derived.Deep.DeepHandedRow
import Derived.Deep.DeepWitnessRowRef
import Derived.Lib.LaidIn
import Derived.SizedLaws
import Derived.Test.YtkjodleggfacbaaDoorTreeEnv
import Derived.Test.YtkjodleggfacbaaDoorFrameKitW
import Derived.Test.YtkjodleggfacbaaDoorKitBytes
import Derived.LaidMore
import Derived.Lib.LaidCaseMet
import Derived.PinnedBridge
namespace Go.Proofs.YtkjodleggfacbaaDoor.Wpr
open Go Go.RowKit Go.Proofs.YtkjodleggfacbaaDoor.Kb Go.Proofs.YtkjodleggfacbaaDoor.Emk Go.Proofs.YtkjodleggfacbaaDoor.Wtr

def LN : List Ptr.Nd := [(1, [], [], -1), (5, [], [99, 10], 0), (6, [112], [], 0), (2, [101], [], 0), (3, [120], [], 3), (3, [121], [39], 3), (4, [], [93, 93, 62, 13, 10], 3), (2, [102], [], 3), (5, [], [], 7), (6, [113], [118, 63], 0)]
def wantN : List (List UInt8) := [[60, 33, 45, 45, 99, 10, 45, 45, 62, 60, 63, 112, 63, 62, 60, 101, 32, 120, 61, 34, 34, 32, 121, 61, 34, 39, 34, 62, 93, 93, 38, 103, 116, 59, 38, 35, 49, 51, 59, 10, 60, 102, 62, 60, 33, 45, 45, 45, 45, 62, 60, 47, 102, 62, 60, 47, 101, 62, 60, 63, 113, 32, 118, 63, 63, 62], [60, 33, 45, 45, 99, 10, 45, 45, 62], [60, 63, 112, 63, 62], [60, 101, 32, 120, 61, 34, 34, 32, 121, 61, 34, 39, 34, 62, 93, 93, 38, 103, 116, 59, 38, 35, 49, 51, 59, 10, 60, 102, 62, 60, 33, 45, 45, 45, 45, 62, 60, 47, 102, 62, 60, 47, 101, 62], [120, 61, 34, 34], [121, 61, 34, 39, 34], [93, 93, 38, 103, 116, 59, 38, 35, 49, 51, 59, 10], [60, 102, 62, 60, 33, 45, 45, 45, 45, 62, 60, 47, 102, 62], [60, 33, 45, 45, 45, 45, 62], [60, 63, 113, 32, 118, 63, 63, 62]]
def LX : List Ptr.Nd := [(4, [], [60], -1)]
theorem fitN : FitP LN := fun i => by
  match i with
  | 0 | 1 | 2 | 3 | 4 | 5 | 6 | 7 | 8 | 9 => exact ⟨by decide, by decide, by decide⟩
  | i + 10 => exact ⟨by simp [Ptr.nam, LN, Ptr.nd0], by simp [Ptr.val, LN, Ptr.nd0], by simp [Ptr.kin, LN, Ptr.nd0]⟩
theorem fitD : FitP (LN.drop 3) := fun i => by
  match i with
  | 0 | 1 | 2 | 3 | 4 | 5 | 6 => exact ⟨by decide, by decide, by decide⟩
  | i + 7 => exact ⟨by simp [Ptr.nam, LN, Ptr.nd0], by simp [Ptr.val, LN, Ptr.nd0], by simp [Ptr.kin, LN, Ptr.nd0]⟩
theorem fitT : FitP (LN.take 2) := fun i => by
  match i with
  | 0 | 1 => exact ⟨by decide, by decide, by decide⟩
  | i + 2 => exact ⟨by simp [Ptr.nam, LN, Ptr.nd0], by simp [Ptr.val, LN, Ptr.nd0], by simp [Ptr.kin, LN, Ptr.nd0]⟩
theorem fitX : FitP LX := fun i => by
  match i with
  | 0 => exact ⟨by decide, by decide, by decide⟩
  | i + 1 => exact ⟨by simp [Ptr.nam, LX, Ptr.nd0], by simp [Ptr.val, LX, Ptr.nd0], by simp [Ptr.kin, LX, Ptr.nd0]⟩
theorem fit0 : FitP [] := fun i => ⟨by simp [Ptr.nam, Ptr.nd0], by simp [Ptr.val, Ptr.nd0], by simp [Ptr.kin, Ptr.nd0]⟩
theorem wtN10 : Ppr.wt LN 0 LN.length ≤ 1000000000 := by decide +kernel
theorem wtD : Ppr.wt (LN.drop 3) 0 (LN.drop 3).length ≤ 1000000000 := by decide +kernel
theorem wtT : Ppr.wt (LN.take 2) 0 (LN.take 2).length ≤ 1000000000 := by decide +kernel
theorem wtX : Ppr.wt LX 0 LX.length ≤ 1000000000 := by decide +kernel
theorem wt0 : Ppr.wt [] 0 ([] : List Ptr.Nd).length ≤ 1000000000 := by decide +kernel
theorem node_all10 : ((List.range 10).map fun i => Ppr.ndR LN ((i : Nat) : Int)) = wantN.map fun x => (x, 0) := by kernel_rfl
theorem node_at10 (i : Nat) (hi : i < 10) : ∃ x, wantN[i]? = some x ∧ Ppr.ndR LN (i : Int) = (x, 0) := by
  have h := congrArg (fun l => l[i]?) node_all10
  simp only [List.getElem?_map, List.getElem?_range hi, Option.map_some] at h
  cases hx : wantN[i]? with
  | none => rw [hx] at h; cases h
  | some x => rw [hx] at h; exact ⟨x, rfl, by simpa using h⟩
theorem printN : Ppr.prR LN = (wantN.headD [], 0) := by kernel_rfl
theorem printD : Ppr.prR (LN.drop 3) = ([], 4) := by kernel_rfl
theorem print0 : Ppr.prR [] = ([], 4) := by kernel_rfl
theorem node0 : Ppr.ndR [] 0 = ([], 2) := by kernel_rfl
theorem nodeX : Ppr.ndR LX 0 = ([38, 108, 116, 59], 0) := by kernel_rfl
theorem nodeT : Ppr.ndR (LN.take 2) 0 = ([], 4) := by kernel_rfl
theorem nodeM : Ppr.ndR LN (-1) = ([], 2) := by kernel_rfl
theorem rdn_drop {w : World} {q : Nat} (h : RdN w (some ⟨q, 0, none⟩) LN) : RdN w (some ⟨q, 12, none⟩) (LN.drop 3) := by
  intro _
  obtain ⟨b, off, e, h⟩ := h (by intro e; cases e)
  cases e
  refine ⟨q, 12, rfl, fun j x hx => ?_⟩
  rw [List.getElem?_drop] at hx
  have := h (3 + j) x hx
  rwa [show 0 + (3 + j) * 4 = 12 + j * 4 by omega] at this
theorem rdn_take {w : World} {A : Option Addr} (h : RdN w A LN) : RdN w A (LN.take 2) := by
  have e : LN = LN.take 2 ++ LN.drop 2 := (List.take_append_drop 2 LN).symm
  rw [e] at h
  exact rdn_left h
theorem rdn_nil (w : World) : RdN w none [] := fun h => absurd rfl h
set_option maxRecDepth 100000 in
set_option maxHeartbeats 4000000 in
theorem law_numbers (w : World) (hE : TEnv w) : Calls Tryd.prog 5 #[] w fun e w' => e = .returned (.bool true) ∧ Below w.heap.size w w' := by
  have HE := Kept.mk hE
  clear hE
  go_enter Tryd.func5, Tryd.ntmps5
  go_wp2
  go_loopw [1] (fun i wx => ∃ k : Nat, k ≤ 256 ∧ i = .int .i64 (k : Int) ∧ Kept (Below w.heap.size w wx)) (fun i _ => 256 - (intOf i).toNat)
  case atStart => exact ⟨0, by omega, rfl, ⟨Below.refl _ _⟩⟩
  case round =>
    obtain ⟨k, hk, rfl, HB⟩ := hrel
    have k0 : (0 : Int) ≤ (k : Int) := by omega
    by_cases hlt : k < 256
    · have k1 : (k : Int) < 256 := by omega
      obtain ⟨x, hx⟩ : ∃ x : UInt8, x.toNat = k := ⟨UInt8.ofNat k, by rw [UInt8.toNat_ofNat']; omega⟩
      have hcv := conv_own [x] (own_new wr [x] (by show 1 ≤ 1000; decide)) rfl
      have hcv : (convert 34 9 (.slice (some ⟨wr.heap.size, 0, none⟩) 1 1)).run Tryd.prog (wr.alloc (.cells #[.int .u8 (k : Int)] 5)) = .ok (.string ⟨#[x]⟩) (wr.alloc (.cells #[.int .u8 (k : Int)] 5)) := by rw [← hx]; exact hcv
      have BL := Kept.mk (HB.out.alloc HB.out.size (.cells #[.int .u8 (k : Int)] 5))
      clear hx
      go_wp2_with (fail)
      refine (law_texts _ _ (HE.out.below BL.out)).mono ?_; rintro e w4 ⟨rfl, hb4⟩
      have H4 := Kept.mk (BL.out.trans (hb4.mono BL.out.size))
      clear hb4
      go_wp2
      go_roundw
      case rel => exact ⟨k + 1, by omega, by go_num, H4⟩
      case measure => simp [intOf]; omega
    · obtain rfl : k = 256 := by omega
      clear k0 hk hlt
      rw [show ((256 : Nat) : Int) = 256 from rfl]
      obtain ⟨w1, rfl⟩ : ∃ w1 : World, w1 = wr := ⟨_, rfl⟩
      go_upto_region 8 with (fail)
      have hB2 : Below w1.heap.size w1 ((w1.alloc (.cells (ndsC LN).toArray 37)).alloc (.cells (wantN.map fun x => Value.string ⟨x.toArray⟩).toArray 9)) := ((Below.refl _ _).alloc (Nat.le_refl _) _).alloc (by simp) _
      have hR : RdN ((w1.alloc (.cells (ndsC LN).toArray 37)).alloc (.cells (wantN.map fun x => Value.string ⟨x.toArray⟩).toArray 9)) (some ⟨w1.heap.size, 0, none⟩) LN := (rdn_lit w1 LN 37).below ((Below.refl _ _).alloc (Nat.le_refl _) _)
      have hW : ∀ i x, wantN[i]? = some x → ((w1.alloc (.cells (ndsC LN).toArray 37)).alloc (.cells (wantN.map fun x => Value.string ⟨x.toArray⟩).toArray 9)).cell? ⟨w1.heap.size + 1, i, none⟩ = some (.string ⟨x.toArray⟩) := fun i x hx => by
        have h0 := World.cell?_alloc_new (w1.alloc (.cells (ndsC LN).toArray 37)) (wantN.map fun x => Value.string ⟨x.toArray⟩).toArray 9 i
        rw [World.size_alloc] at h0
        rw [h0]
        simp [hx]
      change Code.wp _ _ _ _ ((w1.alloc (.cells (ndsC LN).toArray 37)).alloc (.cells (wantN.map fun x => Value.string ⟨x.toArray⟩).toArray 9))
      generalize (w1.alloc (.cells (ndsC LN).toArray 37)).alloc (.cells (wantN.map fun x => Value.string ⟨x.toArray⟩).toArray 9) = W0 at hB2 hR hW ⊢
      have B0 := Kept.mk (HB.out.trans (hB2.mono HB.out.size))
      have HR := Kept.mk hR
      have HW := Kept.mk hW
      generalize hq2 : w1.heap.size + 1 = q2 at HW ⊢
      generalize w1.heap.size = q at HR ⊢
      have hz0 := B0.out.size
      clear hB2 hR hW HB hq2
      go_wp2
      go_loopw [4] (fun i wx => ∃ k : Nat, k ≤ 10 ∧ i = .int .i64 (k : Int) ∧ Kept (Below W0.heap.size W0 wx)) (fun i _ => 10 - (intOf i).toNat)
      case atStart => exact ⟨0, by omega, rfl, ⟨Below.refl _ _⟩⟩
      case round =>
        obtain ⟨k, hk, rfl, HB⟩ := hrel
        have k0 : (0 : Int) ≤ (k : Int) := by omega
        by_cases hlt : k < 10
        · have k1 : (k : Int) < 10 := by omega
          obtain ⟨x, hx, hn⟩ := node_at10 k hlt
          obtain ⟨X, hX⟩ : ∃ X : ByteArray, X = ⟨x.toArray⟩ := ⟨_, rfl⟩
          have hc := HW.out k x hx
          rw [← hX] at hc
          have cN := Node_any (some ⟨q, 0, none⟩) LN 10 (k : Int) wr (HR.out.below HB.out) (by decide) fitN ((HE.out.below B0.out).below HB.out) wtN10
          rw [hn] at cN
          have CN : Kept (Calls Tryd.prog 10 #[.slice (some ⟨q, 0, none⟩) 10 10, .int .i64 (k : Int)] wr fun e w' => e = .returned (.tuple #[.string X, .int .i64 0]) ∧ Below wr.heap.size wr w') := ⟨by rw [hX]; exact cN⟩
          clear cN hn hx hX
          go_wp2_with (fail)
          refine CN.out.mono ?_; rintro e w5 ⟨rfl, hb5⟩
          have B5 := Kept.mk (HB.out.trans (hb5.mono HB.out.size))
          have hc5 : w5.cell? ⟨q2, k, none⟩ = some (.string X) := by rw [B5.out.cell (p := ⟨q2, k, none⟩) (cell_lt hc)]; exact hc
          clear hb5 CN hc
          go_wp2
          go_roundw
          case rel => exact ⟨k + 1, by omega, by go_num, B5⟩
          case measure => simp [intOf]; omega
        · obtain rfl : k = 10 := by omega
          clear k0 hk hlt
          rw [show ((10 : Nat) : Int) = 10 from rfl]
          obtain ⟨w2, rfl⟩ : ∃ w2 : World, w2 = wr := ⟨_, rfl⟩
          have B2 := Kept.mk (B0.out.trans (HB.out.mono hz0))
          have R2 := Kept.mk (HR.out.below HB.out)
          obtain ⟨X, hX⟩ : ∃ X : ByteArray, X = ⟨(wantN.headD []).toArray⟩ := ⟨_, rfl⟩
          have hc0 : W0.cell? ⟨q2, 0, none⟩ = some (.string X) := by rw [hX]; exact HW.out 0 _ rfl
          have hc2 : w2.cell? ⟨q2, 0, none⟩ = some (.string X) := by rw [HB.out.cell (p := ⟨q2, 0, none⟩) (cell_lt hc0)]; exact hc0
          have C1 : Kept (∀ wx, TEnv wx → RdN wx (some ⟨q, 0, none⟩) LN → Calls Tryd.prog 9 #[.slice (some ⟨q, 0, none⟩) 10 10] wx fun e w' => e = .returned (.tuple #[.string X, .int .i64 0]) ∧ Below wx.heap.size wx w') := ⟨fun wx hE hr => by
            have h := Print_any (some ⟨q, 0, none⟩) LN 10 wx hr (by decide) fitN hE wtN10
            rw [printN, ← hX] at h
            exact h⟩
          have C2 : Kept (∀ wx, TEnv wx → RdN wx (some ⟨q, 0, none⟩) LN → Calls Tryd.prog 9 #[.slice (some ⟨q, 12, none⟩) 7 7] wx fun e w' => e = .returned (.tuple #[.string ⟨#[]⟩, .int .i64 4]) ∧ Below wx.heap.size wx w') := ⟨fun wx hE hr => by
            have h := Print_any (some ⟨q, 12, none⟩) (LN.drop 3) 7 wx (rdn_drop hr) (by decide) fitD hE wtD
            rw [printD] at h
            exact h⟩
          have C3 : Kept (∀ wx, TEnv wx → Calls Tryd.prog 9 #[.slice none 0 0] wx fun e w' => e = .returned (.tuple #[.string ⟨#[]⟩, .int .i64 4]) ∧ Below wx.heap.size wx w') := ⟨fun wx hE => by
            have h := Print_any none [] 0 wx (rdn_nil wx) (by decide) fit0 hE wt0
            rw [print0] at h
            exact h⟩
          have C4 : Kept (∀ wx, TEnv wx → Calls Tryd.prog 10 #[.slice none 0 0, .int .i64 0] wx fun e w' => e = .returned (.tuple #[.string ⟨#[]⟩, .int .i64 2]) ∧ Below wx.heap.size wx w') := ⟨fun wx hE => by
            have h := Node_any none [] 0 0 wx (rdn_nil wx) (by decide) fit0 hE wt0
            rw [node0] at h
            exact h⟩
          have C5 : Kept (∀ wx, TEnv (wx.alloc (.cells #[.int .u8 4, .string ⟨#[]⟩, .string ⟨#[60]⟩, .int .i64 (-1)] 37)) → Calls Tryd.prog 10 #[.slice (some ⟨wx.heap.size, 0, none⟩) 1 1, .int .i64 0] (wx.alloc (.cells #[.int .u8 4, .string ⟨#[]⟩, .string ⟨#[60]⟩, .int .i64 (-1)] 37)) fun e w' => e = .returned (.tuple #[.string ⟨#[38, 108, 116, 59]⟩, .int .i64 0]) ∧ Below wx.heap.size wx w') := ⟨fun wx hE => by
            have h := Node_any (some ⟨wx.heap.size, 0, none⟩) LX 1 0 (wx.alloc (.cells (ndsC LX).toArray 37)) (rdn_lit wx LX 37) (by decide) fitX hE wtX
            rw [nodeX] at h
            exact h.mono fun e w' hp => ⟨hp.1, ((Below.refl _ _).alloc (Nat.le_refl _) _).trans (hp.2.mono (by simp))⟩⟩
          have C6 : Kept (∀ wx, TEnv wx → RdN wx (some ⟨q, 0, none⟩) LN → Calls Tryd.prog 10 #[.slice (some ⟨q, 0, none⟩) 2 10, .int .i64 0] wx fun e w' => e = .returned (.tuple #[.string ⟨#[]⟩, .int .i64 4]) ∧ Below wx.heap.size wx w') := ⟨fun wx hE hr => by
            have h := Node_any (some ⟨q, 0, none⟩) (LN.take 2) 10 0 wx (rdn_take hr) (by decide) fitT hE wtT
            rw [nodeT] at h
            exact h⟩
          have C7 : Kept (∀ wx, TEnv wx → RdN wx (some ⟨q, 0, none⟩) LN → Calls Tryd.prog 10 #[.slice (some ⟨q, 0, none⟩) 10 10, .int .i64 (-1)] wx fun e w' => e = .returned (.tuple #[.string ⟨#[]⟩, .int .i64 2]) ∧ Below wx.heap.size wx w') := ⟨fun wx hE hr => by
            have h := Node_any (some ⟨q, 0, none⟩) LN 10 (-1) wx hr (by decide) fitN hE wtN10
            rw [nodeM] at h
            exact h⟩
          have E2 := Kept.mk (HE.out.below B2.out)
          have HC := Kept.mk hc2
          have Z : Kept (Below w2.heap.size w2 w2) := ⟨Below.refl _ _⟩
          clear hX hc0 hc2 HB HR HW
          have Z0 := Z
          go_wp2_with (fail)
          refine (C1.out _ (E2.out.below Z0.out) (R2.out.below Z0.out)).mono ?_; rintro e v1 ⟨rfl, hb⟩
          have Z1 := Kept.mk (Z0.out.trans (hb.mono Z0.out.size))
          clear hb
          go_wp2_with (fail)
          refine (C2.out _ (E2.out.below Z1.out) (R2.out.below Z1.out)).mono ?_; rintro e v2 ⟨rfl, hb⟩
          have Z2 := Kept.mk (Z1.out.trans (hb.mono Z1.out.size))
          clear hb
          go_wp2_with (fail)
          refine (C3.out _ (E2.out.below Z2.out)).mono ?_; rintro e v3 ⟨rfl, hb⟩
          have Z3 := Kept.mk (Z2.out.trans (hb.mono Z2.out.size))
          clear hb
          go_wp2_with (fail)
          refine (C4.out _ (E2.out.below Z3.out)).mono ?_; rintro e v4 ⟨rfl, hb⟩
          have Z4 := Kept.mk (Z3.out.trans (hb.mono Z3.out.size))
          clear hb
          go_wp2_with (fail)
          refine (C5.out _ (E2.out.below (Z4.out.alloc Z4.out.size _))).mono ?_; rintro e v5 ⟨rfl, hb⟩
          have Z5 := Kept.mk (Z4.out.trans (hb.mono Z4.out.size))
          clear hb
          go_wp2_with (fail)
          refine (C6.out _ (E2.out.below Z5.out) (R2.out.below Z5.out)).mono ?_; rintro e v6 ⟨rfl, hb⟩
          have Z6 := Kept.mk (Z5.out.trans (hb.mono Z5.out.size))
          clear hb
          go_wp2_with (fail)
          refine (C7.out _ (E2.out.below Z6.out) (R2.out.below Z6.out)).mono ?_; rintro e v7 ⟨rfl, hb⟩
          have Z7 := Kept.mk (Z6.out.trans (hb.mono Z6.out.size))
          clear hb
          have hcz : v7.cell? ⟨q2, 0, none⟩ = some (.string X) := by rw [Z7.out.cell (p := ⟨q2, 0, none⟩) (cell_lt HC.out)]; exact HC.out
          have CA := Kept.mk (fun wx (h : Below v7.heap.size v7 wx) => awake_any wx ((E2.out.below Z7.out).below h))
          go_wp2_with (fail)
          refine (CA.out _ (Below.refl _ _)).mono ?_; rintro e v8 ⟨rfl, hb⟩
          have Z8 := Kept.mk (Z7.out.trans (hb.mono Z7.out.size))
          clear hb
          go_wp2_with (fail)
          go_ret
          exact ⟨rfl, B2.out.trans (Z8.out.mono B2.out.size)⟩
end Go.Proofs.YtkjodleggfacbaaDoor.Wpr
namespace Go.Proofs.YtkjodleggfacbaaDoor.fPrintNumbers
open Go Go.ChangeShapes Go.WideShapes Go.ChangeAt Go.RowKit
open Go.ChangeMaps (open_string shut_string)

theorem own : ownKnob Tryd.prog.godebug = none := by kernel_rfl
set_option maxRecDepth 100000 in
/-- What the walk gives, for every input. -/
theorem contract (H : Type) (enc : TypeId × Value → H) (W : World) (base : Nat) (args : Array Value) (ds gs : List (DataW H)) (before : List MemPlace)
    (hval : ∀ (j : Nat) t v, Tryd.f5.params[j]? = some t → args[j]? = some v → Value.okWide Tryd.prog W .any base t v)
    (hW : DataW.Whole enc Tryd.prog Tryd.f5.params.toList Rows.printNumbersSpec.vars false W args.toList ds gs before) (hL : laidMetH Tryd.prog Rows.printNumbersRow.laid W) (hsh : W.ShapedOpen Tryd.prog) :
    Calls Tryd.prog 5 args W fun e W' => ∃ v, e = .returned v ∧ Rows.printNumbersSpec.post enc Tryd.prog Tryd.f5 false true false false W args v W' := by
  have hW' := hW
  obtain ⟨p, q, hA0, hV, rfl, hfz, hnd⟩ := hW
  have hA : DataW.TrodAll enc Tryd.prog W 0 (fun _ => true) true Tryd.f5.params.toList args.toList ds p := hA0
  rw [Tryd.params5] at hA hval
  obtain ⟨hargs, rfl, rfl⟩ := trodAll_none hA
  obtain rfl : args = #[] := by cases args; simp_all
  obtain ⟨rfl, rfl⟩ := trodVars_none hV
  clear hA0
  have ht := Wtr.env_of (show laidMetH Tryd.prog Rows.printTellsRow.laid W from hL) hsh
  refine (Wpr.law_numbers W ht).mono fun e W' ⟨he, hb⟩ => ?_
  subst he
  exact ⟨_, rfl, _, _, _, [], _, [], hW', trodAll_cons_mk (shut_bool Tryd.underlying4 _) trodAll_mk0, Kb.trodAll_below (by kernel_rfl) hb (by kernel_rfl) hA, rfl, hb.frame _, fun h => by cases h⟩

/-- A world for the witness: the settled one, the listed variables holding what their initialisers lay. -/
noncomputable def laidWorld (os : Os) : World :=
  let w0 := World.doorLaid Tryd.prog 400 os
  let put (h : Array Obj) (g : Nat) (cs : Array Value) : Array Obj := h.modify g fun
    | .cells _ t frozen => .cells cs t frozen
    | o => o
  let h1 := put w0.heap 3 ((Lib.firstTab.map fun z => Value.int .u8 z).toArray)
  let h2 := put h1 7 #[.slice (some ⟨w0.heap.size, 0, none⟩) 336 336]
  { w0 with heap := h2.push (.cells Lib.caseCells5 118) }
set_option maxRecDepth 100000 in
set_option maxHeartbeats 4000000 in
theorem laid_met (os : Os) : laidMet Tryd.prog Rows.printNumbersRow.laid ((laidWorld os).forCall (fun _ _ => 0) ⟨#[], #[], []⟩).memory :=
  by
    have h := laidMet_with_case (ρ := Tryd.lays274g_ren) (w := ((laidWorld os).forCall (fun _ _ => 0) ⟨#[], #[], []⟩).memory) Tryd.lays274g Tryd.underlying116 ⟨by as_aux_lemma => kernel_rfl, by as_aux_lemma => kernel_rfl, by as_aux_lemma => kernel_rfl, by as_aux_lemma => kernel_rfl, by as_aux_lemma => kernel_rfl, by as_aux_lemma => kernel_rfl⟩
      (l := [("unicode/utf8.acceptRanges", Rows.laid_unicode_utf8_acceptRanges), ("unicode.asciiFold", Rows.laid_unicode_asciiFold), ("unicode.caseOrbit", Rows.laid_unicode_caseOrbit), ("parchment/chars.starts", Rows.laid_parchment_chars_starts), ("parchment/chars.others", Rows.laid_parchment_chars_others), ("parchment/tree.rules", Rows.laid_parchment_tree_rules), ("unicode/utf8.first", Rows.laid_unicode_utf8_first)]) 10 (by as_aux_lemma => kernel_rfl) (by as_aux_lemma => kernel_rfl) (by as_aux_lemma => kernel_rfl) (World.doorLaid Tryd.prog 400 default).heap.size 118 (of_decide_eq_true (by as_aux_lemma => kernel_rfl)) (by as_aux_lemma => kernel_rfl) (by as_aux_lemma => kernel_rfl) (by as_aux_lemma => kernel_rfl)
    rw [← Pinned.caseRanges_eq] at h
    exact Wtr.laidMet_last2 (l := [("unicode/utf8.acceptRanges", Rows.laid_unicode_utf8_acceptRanges), ("unicode.asciiFold", Rows.laid_unicode_asciiFold), ("unicode.caseOrbit", Rows.laid_unicode_caseOrbit), ("parchment/chars.starts", Rows.laid_parchment_chars_starts), ("parchment/chars.others", Rows.laid_parchment_chars_others), ("parchment/tree.rules", Rows.laid_parchment_tree_rules)]) h
theorem reads (os : Os) {H : Type} (enc : TypeId × Value → H) : ∃ places, DataW.whole enc Tryd.prog ((laidWorld os).forCall (fun _ _ => 0) ⟨#[], #[], []⟩).memory Tryd.f5.params.toList Rows.printNumbersSpec.vars false (#[] : Array Value).toList 8 = some ([], [], places) :=
  ⟨[], by kernel_rfl⟩

set_option maxRecDepth 100000 in
theorem lifted (os : Os) (started : os.Started) (H : Type) (enc : TypeId × Value → H) (F : Stop.Interp) :
    ReturnsInHanded {} Tryd.checked os 5 .any ((OpenSpec.ofChange Rows.printNumbersSpec).preRow enc Tryd.prog Tryd.f5 Rows.printNumbersRow.domain false Rows.printNumbersRow.laid) (((OpenSpec.ofChange Rows.printNumbersSpec).at F).post enc Tryd.prog Tryd.f5 false true false false) := by
  obtain ⟨places, hx⟩ := reads os enc
  refine returnsInHanded_of_row (C := Tryd.checked) (s := OpenSpec.ofChange Rows.printNumbersSpec) own started (by kernel_rfl) Tryd.func5
    (witness_row_atRef (enc := enc) (C := Tryd.checked) false (laidWorld os) #[] rfl (by kernel_rfl) (by kernel_rfl) (by kernel_rfl)
      (OpenSpec.preRow_of_cond 8 hx (by kernel_rfl) (fun k hk => by cases hk) (by kernel_rfl) (laid_met os))) ?_
  intro W base args ds gs before hval hW _ _ _ hL hsh _
  exact contract H enc W base args ds gs before hval hW hL hsh

theorem said : Rows.PrintNumbersSaid :=
  OpenClaim.holds_of_cond 5 Tryd.f5 rfl rfl rfl rfl rfl rfl rfl ⟨rfl, rfl, rfl, rfl, rfl⟩ rfl rfl rfl rfl rfl (by kernel_rfl) Tryd.func5 (by kernel_rfl)
    (of_decide_eq_true (by kernel_rfl)) (by unfold Func.isWrapper; first | (rw [if_pos (by decide +kernel)]; kernel_rfl) | (rw [if_neg (by decide +kernel)]; exact ⟨rfl, rfl⟩))
    (fun os started H enc _ F => by rw [OpenClaim.pre_eq_preRow]; exact lifted os started H enc F)

/-- No parameter wants a stand-in; the program's own looks are off. -/
theorem plain (f : FuncId) (fn : Func) (hf : Tryd.pinned.checked.prog.funcNamed Rows.printNumbersRow.func = some f) (hfn : Tryd.pinned.checked.prog.funcs[f]? = some fn) :
    false = Tryd.pinned.checked.prog.looks [] ∧ ∀ (j : Nat) t, fn.params[j]? = some t → Tryd.pinned.checked.prog.wantsStandIn t = false := by
  obtain rfl : f = 5 := Option.some.inj ((show Tryd.prog.funcNamed Rows.printNumbersRow.func = some 5 by kernel_rfl).symm.trans hf) |>.symm
  obtain rfl : fn = Tryd.f5 := (Option.some.inj (Tryd.func5.symm.trans hfn)).symm
  refine ⟨by kernel_rfl, fun j t ht => ?_⟩
  rw [Tryd.params5] at ht
  simp at ht

theorem card : Rows.PrintNumbersCardSaid :=
  Claim7.holds_tied_plain_at .later [] _ _ _ _ said (fun _ h => by cases h) (by kernel_rfl) (fun _ h => by cases h) printNumbers_row_tie rfl ⟨rfl, rfl⟩ (by kernel_rfl) rfl plain (by kernel_rfl)
end Go.Proofs.YtkjodleggfacbaaDoor.fPrintNumbers
