/- The walks over the document's fate and crash (chapter 31). -/
import Derived.Test.YtakccaldcolbmaaGreatDoorLinesRefN
import Derived.Test.YtakccaldcolbmaaGreatDoorLinesS
import Derived.Test.YtakccaldcolbmaaGreatDoorLinesCr
namespace Go.Proofs.YtakccaldcolbmaaGreatDoor.Wln
open Go Go.RowKit Go.Proofs.YtakccaldcolbmaaGreatDoor.Kb

theorem refnum_any (s : ByteArray) (w : World) (hs : s.size ≤ 281474976710656) : Calls Tryz.prog 116 #[.string s] w (NumIs w (Wk.wholeL s.data.toList)) := by
  refine (Wk.refWhole_any s w hs).mono ?_
  rintro e w' ⟨he, hb⟩
  refine ⟨hb, ?_⟩
  rw [he]
  unfold Wk.wholeN Wk.wholeB
  cases Wk.wholeL s.data.toList with
  | some v => rfl
  | none => exact ⟨_, rfl⟩
/-- what a reader of a fate hands back -/
def FateIs (w : World) (r : Option (Int × Int)) (e : Ending) (w' : World) : Prop :=
  Below w.heap.size w w' ∧ ∃ (x y : Int) (z : Bool), e = .returned (.tuple #[.agg #[.int .i64 x, .int .u8 y], .bool z]) ∧ Kept ((z = true → r = some (x, y)) ∧ (z = false → r = none))
theorem fate_at {l : List UInt8} {k : Nat} (hk : l[k]? = some 58) (hn : ∀ j, j < k → l[j]? ≠ some 58) : Pln.fateL l = (match Wk.wholeL (l.take k), Wk.wholeL (l.drop (k + 1)) with
    | some x, some y => if 0 ≤ y ∧ y < 256 then some (x, y) else none
    | _, _ => none) := by
  have hkl : k < l.length := (List.getElem?_eq_some_iff.1 hk).1
  have ht : ∀ (l : List UInt8) (k : Nat), l[k]? = some 58 → (∀ j, j < k → l[j]? ≠ some 58) → l.takeWhile (· != 58) = l.take k ∧ l.dropWhile (· != 58) = l.drop k := by
    intro l
    induction l with
    | nil => intro k h _; cases h
    | cons c l ih =>
      intro k h hn
      cases k with
      | zero =>
        simp only [List.getElem?_cons_zero, Option.some.injEq] at h
        subst h
        exact ⟨rfl, rfl⟩
      | succ k =>
        have hc : (c != 58) = true := by
          have := hn 0 (by omega)
          simpa using this
        obtain ⟨a, b⟩ := ih k (by simpa using h) (fun j hj => by have := hn (j + 1) (by omega); simpa using this)
        rw [List.takeWhile_cons, List.dropWhile_cons, if_pos hc, if_pos hc, a, b]
        exact ⟨rfl, rfl⟩
  obtain ⟨a, b⟩ := ht l k hk hn
  unfold Pln.fateL
  rw [a, b, Pln.drop_at hk]
  rfl
theorem fate_none {l : List UInt8} (hn : ∀ j : Nat, l[j]? ≠ some 58) : Pln.fateL l = none := by
  have ht : ∀ (l : List UInt8), (∀ j : Nat, l[j]? ≠ some 58) → l.dropWhile (· != 58) = [] := by
    intro l
    induction l with
    | nil => intro _; rfl
    | cons c l ih =>
      intro hn
      have hc : (c != 58) = true := by
        have := hn 0
        simpa using this
      rw [List.dropWhile_cons, if_pos hc]
      exact ih (fun j => by have := hn (j + 1); simpa using this)
  unfold Pln.fateL
  rw [ht l hn]
theorem bits255 : ∀ n : Nat, n < 256 → bits BinOp.and IntKind.i64 (n : Int) 255 = (n : Int) := by decide +kernel
/-- the result's block -/
def RB (w W : World) : Prop := W.heap[w.heap.size]? = some (.cells #[.int .i64 0, .int .u8 0] 42 (0, 0)) ∧ Below w.heap.size w W
theorem RB.below {w W W' : World} (h : RB w W) (hb : Below W.heap.size W W') : RB w W' := ⟨(hb.block _ (Array.getElem?_eq_some_iff.1 h.1).1).trans h.1, h.2.trans (hb.mono h.2.size)⟩
theorem RB.cells {w W : World} (h : RB w W) : W.cell? ⟨w.heap.size, 0, none⟩ = some (.int .i64 0) ∧ W.cell? ⟨w.heap.size, 1, none⟩ = some (.int .u8 0) ∧ ∀ i, W.frozen? ⟨w.heap.size, i, none⟩ = false :=
  ⟨by rw [cell_of_row W w.heap.size 0 _ _ _ h.1]; rfl, by rw [cell_of_row W w.heap.size 1 _ _ _ h.1]; rfl, fun i => frozen_of_row W w.heap.size i h.1⟩
theorem RB.set {w W : World} (a b : Value) (h : RB w W) : ((W.setCell ⟨w.heap.size, 0, none⟩ a).setCell ⟨w.heap.size, 1, none⟩ b).heap[w.heap.size]? = some (.cells #[a, b] 42 (0, 0)) ∧ Below w.heap.size w ((W.setCell ⟨w.heap.size, 0, none⟩ a).setCell ⟨w.heap.size, 1, none⟩ b) :=
  ⟨by simpa using block_set (block_set h.1 0 a) 1 b, (h.2.setCell (p := ⟨w.heap.size, 0, none⟩) (Nat.le_refl _) a).setCell (p := ⟨w.heap.size, 1, none⟩) (Nat.le_refl _) b⟩
set_option maxRecDepth 100000 in
set_option maxHeartbeats 4000000 in
theorem fate_any (s : ByteArray) (w : World) (hs : s.size ≤ 1000000) : Calls Tryz.prog 117 #[.string s] w (FateIs w (Pln.fateL s.data.toList)) := by
  have hl := size_len s
  have HX := Kept.mk (fun k h => byte_get s k h)
  obtain ⟨F, hF⟩ : ∃ F, Pln.fateL s.data.toList = F := ⟨_, rfl⟩
  rw [hF]
  have HF := Kept.mk hF
  generalize hSS : s.data.toList = S at HX hl HF
  have HS := Kept.mk hSS
  clear hF hSS
  have hrb : RB w (w.alloc (.cells #[.int .i64 0, .int .u8 0] 42)) := ⟨World.alloc_heap_new w _, (Below.refl _ _).alloc (Nat.le_refl _) _⟩
  have HB0 := Kept.mk hrb
  clear hrb
  go_enter Tryz.func117, Tryz.ntmps117
  go_wp2
  generalize hW2 : w.alloc (.cells #[.int .i64 0, .int .u8 0] 42) = W2 at HB0 ⊢
  clear hW2
  go_loopw [4, 5, 6, 7, 8] (fun i _ _ _ _ wx => ∃ k : Nat, i = .int .i64 k ∧ k ≤ s.size ∧ Kept (∀ j, j < k → S[j]? ≠ some 58) ∧ W2 = wx) (fun i _ _ _ _ _ => s.size - (intOf i).toNat)
  case atStart => exact ⟨0, rfl, by omega, ⟨fun j hj => absurd hj (by omega)⟩, rfl⟩
  case round =>
    obtain ⟨k, rfl, hk, HJ, rfl⟩ := hrel
    have k0 : (0 : Int) ≤ (k : Int) := by omega
    by_cases hlt : k < s.size
    · have k1 : (k : Int) < (s.size : Int) := by omega
      have hx := HX.out k hlt
      by_cases q58 : s[k].toNat = 58
      · have e58 : ((s[k].toNat : Nat) : Int) = 58 := by omega
        have hc : s[k] = 58 := UInt8.toNat_inj.1 (by rw [q58]; rfl)
        rw [hc] at hx
        have hft := fate_at hx HJ.out
        have hp : (s.extract 0 k).data.toList = S.take k := by rw [extract_drop]; show (s.data.toList.drop 0).take (k - 0) = _; rw [HS.out]; simp
        have hq : (s.extract (k + 1) s.size).data.toList = S.drop (k + 1) := by rw [extract_drop]; show (s.data.toList.drop (k + 1)).take (s.size - (k + 1)) = _; rw [HS.out, List.take_of_length_le (by rw [List.length_drop]; omega)]
        have y1 : (k : Int) + 1 ≤ (s.size : Int) := by omega
        have y2 : (0 : Int) ≤ (k : Int) + 1 := by omega
        have hps : (s.extract 0 k).size ≤ 281474976710656 := by simp; omega
        have hqs : (s.extract (k + 1) s.size).size ≤ 281474976710656 := by simp; omega
        have HFT := Kept.mk hft
        have HP := Kept.mk hp
        have HQ := Kept.mk hq
        clear hft hp hq hc hx q58
        have HPW : Kept (∀ r, Wk.wholeL (S.take k) = r → Wk.wholeL (s.extract 0 k).data.toList = r) := ⟨fun r h => by rw [HP.out]; exact h⟩
        have HQW : Kept (∀ r, Wk.wholeL (S.drop (k + 1)) = r → Wk.wholeL (s.extract (k + 1) s.size).data.toList = r) := ⟨fun r h => by rw [HQ.out]; exact h⟩
        cases hwp : Wk.wholeL (S.take k) with
        | none =>
          have HWP := Kept.mk hwp
          clear hwp
          go_wp2_with (go_at_call 116; refine (refnum_any _ _ (by first | exact hps | exact hqs)).mono ?_; rintro e wn hn; first | (have HBd := HBb.out; obtain ⟨hb2, n2, z2, rfl, Hfalse2⟩ := num_parts hn; have HBc := Kept.mk (HBd.below hb2); obtain ⟨d0, d1, f0⟩ := HBc.out.cells; clear hn HBd) | (obtain ⟨hb1, n1, rfl⟩ := num_is_none hn (HPW.out _ HWP.out); have HBb := Kept.mk (HB0.out.below hb1); clear hn))
          have hz2 := HBc.out.set (.int .i64 n1) (.int .u8 (bits BinOp.and IntKind.i64 n2 255 % 256))
          have r0 := cell_of_row _ w.heap.size 0 _ _ _ hz2.1
          have r1 := cell_of_row _ w.heap.size 1 _ _ _ hz2.1
          refine bodyPost_ret (v := .tuple #[.agg #[.int .i64 n1, .int .u8 (bits BinOp.and IntKind.i64 n2 255 % 256)], .bool false]) (by simp [results, Tryz.results117, go_sem, r0, r1]) rfl ⟨hz2.2, _, _, false, rfl, ⟨fun e => (by cases e), fun _ => by rw [← HF.out, HFT.out]; simp only [HWP.out]⟩⟩
        | some n1 =>
          have HWP := Kept.mk hwp
          clear hwp
          cases hwq : Wk.wholeL (S.drop (k + 1)) with
          | none =>
            have HWQ := Kept.mk hwq
            clear hwq
            go_wp2_with (go_at_call 116; refine (refnum_any _ _ (by first | exact hps | exact hqs)).mono ?_; rintro e wn hn; first | (have HBd := HBb.out; obtain ⟨hb2, n2, rfl⟩ := num_is_none hn (HQW.out _ HWQ.out); have HBc := Kept.mk (HBd.below hb2); obtain ⟨d0, d1, f0⟩ := HBc.out.cells; clear hn HBd) | (obtain ⟨hb1, rfl⟩ := num_is_some hn (HPW.out _ HWP.out); have HBb := Kept.mk (HB0.out.below hb1); clear hn))
            have hz2 := HBc.out.set (.int .i64 n1) (.int .u8 (bits BinOp.and IntKind.i64 n2 255 % 256))
            have r0 := cell_of_row _ w.heap.size 0 _ _ _ hz2.1
            have r1 := cell_of_row _ w.heap.size 1 _ _ _ hz2.1
            refine bodyPost_ret (v := .tuple #[.agg #[.int .i64 n1, .int .u8 (bits BinOp.and IntKind.i64 n2 255 % 256)], .bool false]) (by simp [results, Tryz.results117, go_sem, r0, r1]) rfl ⟨hz2.2, _, _, false, rfl, ⟨fun e => (by cases e), fun _ => by rw [← HF.out, HFT.out]; simp only [HWP.out, HWQ.out]⟩⟩
          | some n2 =>
            have HWQ := Kept.mk hwq
            clear hwq
            have hft2 : Pln.fateL S = if 0 ≤ n2 ∧ n2 < 256 then some (n1, n2) else none := by rw [HFT.out]; simp only [HWP.out, HWQ.out]
            have HFU := Kept.mk hft2
            clear hft2
            by_cases r1 : 0 ≤ n2
            · by_cases r2 : n2 ≤ 255
              · have hbits : bits BinOp.and IntKind.i64 n2 255 = n2 := by have := bits255 n2.toNat (by omega); rwa [show ((n2.toNat : Nat) : Int) = n2 by omega] at this
                go_wp2_with (go_at_call 116; refine (refnum_any _ _ (by first | exact hps | exact hqs)).mono ?_; rintro e wn hn; first | (have HBd := HBb.out; obtain ⟨hb2, rfl⟩ := num_is_some hn (HQW.out _ HWQ.out); have HBc := Kept.mk (HBd.below hb2); obtain ⟨d0, d1, f0⟩ := HBc.out.cells; clear hn HBd) | (obtain ⟨hb1, rfl⟩ := num_is_some hn (HPW.out _ HWP.out); have HBb := Kept.mk (HB0.out.below hb1); clear hn))
                have hz2 := HBc.out.set (.int .i64 n1) (.int .u8 n2)
                have r0 := cell_of_row _ w.heap.size 0 _ _ _ hz2.1
                have r1 := cell_of_row _ w.heap.size 1 _ _ _ hz2.1
                refine bodyPost_ret (v := .tuple #[.agg #[.int .i64 n1, .int .u8 n2], .bool true]) (by simp [results, Tryz.results117, go_sem, r0, r1]) rfl ⟨hz2.2, _, _, true, rfl, ⟨fun _ => by rw [← HF.out, HFU.out, if_pos (by omega)], fun e => (by cases e)⟩⟩
              · have r3 : decide (n2 ≤ 255) = false := by simp; omega
                go_wp2_with (go_at_call 116; refine (refnum_any _ _ (by first | exact hps | exact hqs)).mono ?_; rintro e wn hn; first | (have HBd := HBb.out; obtain ⟨hb2, rfl⟩ := num_is_some hn (HQW.out _ HWQ.out); have HBc := Kept.mk (HBd.below hb2); obtain ⟨d0, d1, f0⟩ := HBc.out.cells; clear hn HBd) | (obtain ⟨hb1, rfl⟩ := num_is_some hn (HPW.out _ HWP.out); have HBb := Kept.mk (HB0.out.below hb1); clear hn))
                have hz2 := HBc.out.set (.int .i64 n1) (.int .u8 (bits BinOp.and IntKind.i64 n2 255 % 256))
                have r0 := cell_of_row _ w.heap.size 0 _ _ _ hz2.1
                have r1 := cell_of_row _ w.heap.size 1 _ _ _ hz2.1
                refine bodyPost_ret (v := .tuple #[.agg #[.int .i64 n1, .int .u8 (bits BinOp.and IntKind.i64 n2 255 % 256)], .bool false]) (by simp [results, Tryz.results117, go_sem, r0, r1]) rfl ⟨hz2.2, _, _, false, rfl, ⟨fun e => (by cases e), fun _ => by rw [← HF.out, HFU.out, if_neg (by omega)]⟩⟩
            · have r3 : decide (0 ≤ n2) = false := by simp; omega
              go_wp2_with (go_at_call 116; refine (refnum_any _ _ (by first | exact hps | exact hqs)).mono ?_; rintro e wn hn; first | (have HBd := HBb.out; obtain ⟨hb2, rfl⟩ := num_is_some hn (HQW.out _ HWQ.out); have HBc := Kept.mk (HBd.below hb2); obtain ⟨d0, d1, f0⟩ := HBc.out.cells; clear hn HBd) | (obtain ⟨hb1, rfl⟩ := num_is_some hn (HPW.out _ HWP.out); have HBb := Kept.mk (HB0.out.below hb1); clear hn))
              have hz2 := HBc.out.set (.int .i64 n1) (.int .u8 (bits BinOp.and IntKind.i64 n2 255 % 256))
              have r0 := cell_of_row _ w.heap.size 0 _ _ _ hz2.1
              have r1 := cell_of_row _ w.heap.size 1 _ _ _ hz2.1
              refine bodyPost_ret (v := .tuple #[.agg #[.int .i64 n1, .int .u8 (bits BinOp.and IntKind.i64 n2 255 % 256)], .bool false]) (by simp [results, Tryz.results117, go_sem, r0, r1]) rfl ⟨hz2.2, _, _, false, rfl, ⟨fun e => (by cases e), fun _ => by rw [← HF.out, HFU.out, if_neg (by omega)]⟩⟩
      · have e58 : (((s[k].toNat : Nat) : Int) == 58) = false := by simp; omega
        have n58 : s[k] ≠ 58 := fun e => q58 (by rw [e]; rfl)
        have HJ2 : Kept (∀ j, j < k + 1 → S[j]? ≠ some 58) := ⟨fun j h => by
          by_cases e : j = k
          · subst e; rw [hx]; simpa using n58
          · exact HJ.out j (by omega)⟩
        clear hx q58 n58
        go_wp2
        go_round
        case rel => exact ⟨k + 1, by go_num, by omega, HJ2, trivial⟩
        case measure => simp [intOf]; omega
    · obtain rfl : k = s.size := by omega
      have hft : Pln.fateL S = none := fate_none (fun j h => by
        have hj := (List.getElem?_eq_some_iff.1 h).1
        exact HJ.out j (by omega) h)
      have HFT := Kept.mk hft
      obtain ⟨d0, d1, f0⟩ := HB0.out.cells
      clear hft
      go_wp2
      have hz2 := HB0.out.set (.int .i64 0) (.int .u8 0)
      have r0 := cell_of_row _ w.heap.size 0 _ _ _ hz2.1
      have r1 := cell_of_row _ w.heap.size 1 _ _ _ hz2.1
      refine bodyPost_ret (v := .tuple #[.agg #[.int .i64 0, .int .u8 0], .bool false]) (by simp [results, Tryz.results117, go_sem, r0, r1]) rfl ⟨hz2.2, _, _, false, rfl, ⟨fun e => (by cases e), fun _ => by rw [← HF.out, HFT.out]⟩⟩
end Go.Proofs.YtakccaldcolbmaaGreatDoor.Wln
