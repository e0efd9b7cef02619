/- The program's check of trees (chapter 06), joined: TreeVa -/
import Derived.Test.YtemfmidhekdekaaGreatDoorPsB
import Derived.Test.YtemfmidhekdekaaGreatDoorPsB
import Derived.Test.YtemfmidhekdekaaGreatDoorPsB
import Derived.Test.YtemfmidhekdekaaGreatDoorPsB
import Derived.Test.YtemfmidhekdekaaGreatDoorPsB
import Derived.Test.YtemfmidhekdekaaGreatDoorPsA
import Derived.Test.YtemfmidhekdekaaGreatDoorShelfTree
import Derived.Lib.Index
import Derived.Lib.IndexMore
namespace Go.Proofs.YtemfmidhekdekaaGreatDoor.Wch
open Go Go.RowKit

theorem valid_any (s : ByteArray) (w : World) (hs : s.size ≤ 9223372036854775807) (ht : Env w) :
    Calls Tryz.prog 101 #[.string s] w fun e w' => e = .returned (.bool (Lib.validD s.data.toList)) ∧ Below w.heap.size w w' := Any.utf8_ValidString Tryz.laysValid s w hs ht.2

set_option maxHeartbeats 1000000 in
theorem texts_any (s : ByteArray) (w : World) (hs : s.size ≤ 9223372036854775807) (ht : Env w) :
    Calls Tryz.prog 75 #[.string s] w fun e w' => e = .returned (.bool (Pch.textsL s.data.toList)) ∧ Below w.heap.size w w' := by
  rw [← Pch.texts_prog]
  have cV := fun wx hx => valid_any s wx hs hx
  generalize hT : Pch.loopTexts (Pch.runes s.data.toList) = T
  generalize hV : Lib.validD s.data.toList = V at cV
  have HT := Lib.hid hT
  have HE := Lib.hid ht
  have CV := Lib.hid cV
  clear hT ht hV cV
  go_enter Tryz.func75, Tryz.ntmps75
  go_wp2
  go_loopg [] s.size (fun g wx => ∃ pos : Nat, wx.heap[w.heap.size]? = some (.stringIter s pos) ∧ Below w.heap.size w wx ∧ Hid (Pch.loopTexts (Pch.runes (s.data.toList.drop pos)) = T) ∧ s.size ≤ pos + g)
  case atStart => exact ⟨0, World.iter_heap w s 0, (Below.refl _ w).alloc (Nat.le_refl _) _, HT.out, by omega⟩
  case round =>
    obtain ⟨pos, hit, hbw, H, hfu⟩ := hrel
    have hsz : w.heap.size < wr.heap.size := (Array.getElem?_eq_some_iff.1 hit).1
    by_cases hp : pos < s.size
    · obtain ⟨g, rfl⟩ : ∃ g, gk = g + 1 := ⟨gk - 1, by omega⟩
      have hnx : ∀ ty, (Instr.next (.pointer (some ⟨w.heap.size, 0, none⟩)) true ty).run Tryz.prog wr = _ := fun ty => Lib.run_next_any_at wr w.heap.size s pos ty hit hp
      have hwd := Lib.width_pos s pos
      have h1 := H.out
      rw [runes_at s pos hp] at h1
      obtain ⟨R, hR⟩ : ∃ R, (Utf8.decode s pos).1 = R := ⟨_, rfl⟩
      obtain ⟨K, hK⟩ : ∃ K, (Utf8.decode s pos).2 = K := ⟨_, rfl⟩
      have h2 : (Pch.charB (R : Int) && Pch.loopTexts (Pch.runes (s.data.toList.drop (pos + K)))) = T := by rw [← hR, ← hK]; exact h1
      rw [hR, hK] at hnx
      rw [hK] at hwd
      have hit2 := Lib.iterAt_heap wr w.heap.size s pos (pos + K) hit
      have hbw2 := Lib.below_iterAt hbw (k := w.heap.size) (Nat.le_refl _) s (pos + K)
      obtain ⟨W, hWd⟩ : ∃ W, wr.iterAt w.heap.size s (pos + K) = W := ⟨_, rfl⟩
      rw [hWd] at hnx hit2 hbw2
      have cS := char_any (R : Int) W
      have hWs : w.heap.size < W.heap.size := (Array.getElem?_eq_some_iff.1 hit2).1
      generalize hc : Pch.charB (R : Int) = C at cS h2
      have H2 := Lib.hid h2
      have CS := Lib.hid cS
      clear h1 h2 hR hK hWd hc cS H
      cases C
      · go_wp2_with (go_at_call 65; refine CS.out.mono ?_; rintro e w' ⟨rfl, rfl⟩)
        go_ret
        exact ⟨ret_bool (by rw [← H2.out]; rfl), hbw2⟩
      · go_wp2_with (go_at_call 65; refine CS.out.mono ?_; rintro e w' ⟨rfl, rfl⟩)
        go_roundg g
        case measure => omega
        case rel => exact ⟨pos + K, hit2, hbw2, by have := H2.out; rw [Bool.true_and] at this; exact this, by omega⟩
    · have hnx : ∀ ty, (Instr.next (.pointer (some ⟨w.heap.size, 0, none⟩)) true ty).run Tryz.prog wr = _ := fun ty => Lib.run_next_end_at wr w.heap.size s pos ty hit hp
      have h1 := H.out
      rw [runes_end s pos hp] at h1
      have H1 : Hid (T = true) := h1.symm
      clear h1 H
      go_wp2_with (go_at_call 101; refine (CV.out _ (HE.out.below (by assumption))).mono ?_; rintro e w' ⟨rfl, hb⟩)
      go_ret
      exact ⟨ret_bool (by rw [H1.out, Bool.true_and]), hbw.trans (hb.mono hbw.size)⟩

set_option maxHeartbeats 1000000 in
theorem nametext_any (s : ByteArray) (w : World) (hs : s.size ≤ 9223372036854775807) (ht : Env w) :
    Calls Tryz.prog 74 #[.string s] w fun e w' => e = .returned (.bool (Pch.nameL s.data.toList)) ∧ Below w.heap.size w w' := by
  rw [← Pch.name_prog]
  have cV := fun wx hx => valid_any s wx hs hx
  have hlen := size_len s
  generalize hT : Pch.loopName true (Pch.runes s.data.toList) = T
  generalize hV : Lib.validD s.data.toList = V at cV
  have HT := Lib.hid hT
  have HE := Lib.hid ht
  have CV := Lib.hid cV
  generalize hB : (T && (!s.data.toList.isEmpty && decide (s.data.toList.length ≤ 100) && V)) = B
  have HB0 : Hid ((T && (!s.toList.isEmpty && decide ((s.size : Int) ≤ 100) && V)) = B) := by
    show _ = _
    rw [← hB, hlen, ByteArray.toList_eq]
    congr 3
    exact decide_eq_decide.2 (by omega)
  clear hT ht hV cV hlen hB
  go_enter Tryz.func74, Tryz.ntmps74
  go_wp2
  go_loopg [] s.size (fun g wx => ∃ pos : Nat, wx.heap[w.heap.size]? = some (.stringIter s pos) ∧ Below w.heap.size w wx ∧ Hid (Pch.loopName (decide (pos = 0)) (Pch.runes (s.data.toList.drop pos)) = T) ∧ s.size ≤ pos + g)
  case atStart => exact ⟨0, World.iter_heap w s 0, (Below.refl _ w).alloc (Nat.le_refl _) _, HT.out, by omega⟩
  case round =>
    obtain ⟨pos, hit, hbw, H, hfu⟩ := hrel
    have hsz : w.heap.size < wr.heap.size := (Array.getElem?_eq_some_iff.1 hit).1
    by_cases hp : pos < s.size
    · obtain ⟨g, rfl⟩ : ∃ g, gk = g + 1 := ⟨gk - 1, by omega⟩
      have hnx : ∀ ty, (Instr.next (.pointer (some ⟨w.heap.size, 0, none⟩)) true ty).run Tryz.prog wr = _ := fun ty => Lib.run_next_any_at wr w.heap.size s pos ty hit hp
      have hwd := Lib.width_pos s pos
      have h1 := H.out
      rw [runes_at s pos hp] at h1
      obtain ⟨R, hR⟩ : ∃ R, (Utf8.decode s pos).1 = R := ⟨_, rfl⟩
      obtain ⟨K, hK⟩ : ∃ K, (Utf8.decode s pos).2 = K := ⟨_, rfl⟩
      have h2 : (Pch.nameB (R : Int) && (!decide (pos = 0) || Pch.startB (R : Int)) && Pch.loopName false (Pch.runes (s.data.toList.drop (pos + K)))) = T := by rw [← hR, ← hK]; exact h1
      rw [hR, hK] at hnx
      rw [hK] at hwd
      have hit2 := Lib.iterAt_heap wr w.heap.size s pos (pos + K) hit
      have hbw2 := Lib.below_iterAt hbw (k := w.heap.size) (Nat.le_refl _) s (pos + K)
      obtain ⟨W, hWd⟩ : ∃ W, wr.iterAt w.heap.size s (pos + K) = W := ⟨_, rfl⟩
      rw [hWd] at hnx hit2 hbw2
      have hWs : w.heap.size < W.heap.size := (Array.getElem?_eq_some_iff.1 hit2).1
      have cN := name_any (R : Int) W (HE.out.below hbw2).1
      have cS := fun wx (hx : Tabs wx) => start_any (R : Int) wx hx
      generalize hc : Pch.nameB (R : Int) = C at cN h2
      generalize hd : Pch.startB (R : Int) = D at cS h2
      have H2 := Lib.hid h2
      have CN := Lib.hid cN
      have CS := Lib.hid cS
      clear h1 h2 hR hK hWd hc hd cN cS H
      have hnext : pos + K ≠ 0 := by omega
      cases C
      · go_wp2_with (go_at_call 99; refine CN.out.mono ?_; rintro e w1 ⟨rfl, hb1⟩)
        go_ret
        exact ⟨ret_bool (by rw [← HB0.out, ← H2.out]; rfl), hbw2.trans (hb1.mono (by omega))⟩
      · by_cases h0 : pos = 0
        · subst h0
          cases D
          · go_wp2_with (first | (go_at_call 99; refine CN.out.mono ?_; rintro e w1 ⟨rfl, hb1⟩) | (go_at_call 100; refine (CS.out _ ((HE.out.below (by assumption)).below (by assumption)).1).mono ?_; rintro e w2 ⟨rfl, hb2⟩))
            go_ret
            exact ⟨ret_bool (by rw [← HB0.out, ← H2.out]; rfl), hbw2.trans ((hb1.trans (hb2.mono hb1.size)).mono (by omega))⟩
          · go_wp2_with (first | (go_at_call 99; refine CN.out.mono ?_; rintro e w1 ⟨rfl, hb1⟩) | (go_at_call 100; refine (CS.out _ ((HE.out.below (by assumption)).below (by assumption)).1).mono ?_; rintro e w2 ⟨rfl, hb2⟩))
            go_roundg g
            case measure => omega
            case rel => exact ⟨0 + K, ((hb1.trans (hb2.mono hb1.size)).block w.heap.size hWs).trans hit2, hbw2.trans ((hb1.trans (hb2.mono hb1.size)).mono (by omega)), by have := H2.out; simp only [Bool.true_and, Bool.or_true] at this; show _ = _; rw [decide_eq_false hnext]; exact this, by omega⟩
        · have hz : ((pos : Int) == 0) = false := by simpa using h0
          go_wp2_with (go_at_call 99; refine CN.out.mono ?_; rintro e w1 ⟨rfl, hb1⟩)
          go_roundg g
          case measure => omega
          case rel => exact ⟨pos + K, (hb1.block w.heap.size hWs).trans hit2, hbw2.trans (hb1.mono (by omega)), by have := H2.out; rw [decide_eq_false h0] at this; show _ = _; rw [decide_eq_false hnext]; exact this, by omega⟩
    · have hnx : ∀ ty, (Instr.next (.pointer (some ⟨w.heap.size, 0, none⟩)) true ty).run Tryz.prog wr = _ := fun ty => Lib.run_next_end_at wr w.heap.size s pos ty hit hp
      have h1 := H.out
      rw [runes_end s pos hp] at h1
      have H1 : Hid (T = true) := by show T = true; rw [← h1]; cases decide (pos = 0) <;> rfl
      clear h1 H
      have HB : Hid ((!s.toList.isEmpty && decide ((s.size : Int) ≤ 100) && V) = B) := by
        have h := HB0.out
        rw [H1.out, Bool.true_and] at h
        exact h
      go_wp2_with (go_at_call 101; refine (CV.out _ (HE.out.below (by assumption))).mono ?_; rintro e w' ⟨rfl, hb⟩)
      · go_ret
        exact ⟨ret_bool (by rw [← HB.out, ‹s.toList = []›]; rfl), hbw⟩
      · go_ret
        refine ⟨ret_bool ?_, hbw.trans (hb.mono hbw.size)⟩
        have e1 : s.toList.isEmpty = false := by simpa using ‹¬ s.toList = []›
        rw [← HB.out, e1, decide_eq_true ‹(s.size : Int) ≤ 100›]
        rfl
      · go_ret
        refine ⟨ret_bool ?_, hbw⟩
        rw [← HB.out, decide_eq_false (p := (s.size : Int) ≤ 100) (by omega)]
        simp
end Go.Proofs.YtemfmidhekdekaaGreatDoor.Wch
namespace Go.Proofs.YtemfmidhekdekaaGreatDoor.Wtr
open Go Go.RowKit Go.Proofs.YtemfmidhekdekaaGreatDoor.Kb

theorem ret_i64 {a b : Int} (h : a = b) : Ending.returned (.int .i64 a) = .returned (.int .i64 b) := by rw [h]
set_option maxHeartbeats 1000000 in
theorem open_any (D : Nat) (A : Option Addr) (l : List Ptr.Nd) (c i : Nat) (w : World) (hD : w.cell? ⟨D, 0, none⟩ = some (.slice A l.length c)) (hr : RdN w A l) (hi : i < l.length) (hR : Ptr.Rng l i) (hl : l.length ≤ 100000) :
    Calls Tryz.prog 45 #[.pointer (some ⟨D, 0, none⟩), .int .i64 i] w fun e w' => e = .returned (.bool (Ptr.openB l i)) ∧ w = w' := by
  obtain ⟨b, off, rfl, _, _, _, q3⟩ := hr.at_ hi
  have HRD := Kept.mk hr
  unfold Ptr.openB
  simp only at q3
  generalize Ptr.par l i = Q at q3
  generalize hT : Ptr.chain l Q (i + 1) ((i : Int) - 1) = T
  have HT := Lib.hid hT
  have HR := Kept.mk hR
  have i0 : (0 : Int) ≤ (i : Int) := by omega
  have i1 : (i : Int) < (l.length : Int) := by omega
  clear hT hr hR
  go_enter Tryz.func45, Tryz.ntmps45
  go_wp2
  go_loop [5] (fun p => ∃ (P : Int) (f : Nat), p = .int .i64 P ∧ -1 ≤ P ∧ P < i ∧ P + 2 ≤ f ∧ Hid (Ptr.chain l Q f P = T)) (fun p => (intOf p + 1).toNat)
  case atStart => exact ⟨(i : Int) - 1, i + 1, rfl, by omega, by omega, by omega, HT.out⟩
  case round =>
    obtain ⟨P, f, rfl, p0, p1, p2, H⟩ := hrel
    obtain ⟨f, rfl⟩ : ∃ g, f = g + 1 := ⟨f - 1, by omega⟩
    have h := H.out
    rw [Ptr.chain_at] at h
    by_cases hp : P < 0
    · obtain rfl : P = -1 := by omega
      have hX : Kept (T = ((-1 : Int) == Q)) := ⟨by
        rw [← h]
        by_cases e : (-1 : Int) = Q
        · rw [if_pos e, e, beq_self_eq_true]
        · rw [if_neg e, if_pos hp, beq_eq_false_iff_ne.2 e]⟩
      clear h H
      go_wp2
      go_ret
      exact ⟨ret_bool hX.out.symm, rfl⟩
    · obtain ⟨p, rfl⟩ : ∃ p : Nat, P = p := ⟨P.toNat, by omega⟩
      by_cases e : (p : Int) = Q
      · rw [if_pos e] at h
        have hX : Kept (T = true) := ⟨h.symm⟩
        subst e
        clear h H
        go_wp2
        go_ret
        exact ⟨ret_bool (by rw [hX.out]), rfl⟩
      · rw [if_neg e, if_neg hp, Int.toNat_natCast] at h
        have hpl : p < l.length := by omega
        obtain ⟨_, _, _, c3⟩ := HRD.out.cells hpl
        have hrg := HR.out p (by omega)
        simp only at c3
        generalize Ptr.par l p = N at h c3 hrg
        have H1 := Lib.hid h
        have j0 : (0 : Int) ≤ (p : Int) := by omega
        have j1 : (p : Int) < (l.length : Int) := by omega
        have e1 : ((p : Int) != Q) = true := by simpa using e
        obtain ⟨n0, n1⟩ := hrg
        clear h H e
        go_wp2
        go_round
        case rel => exact ⟨N, f, rfl, n0, by omega, by omega, H1.out⟩
        case measure => simp [intOf]; omega
theorem below_drewN {B : Nat} {a w : World} (h : Below B a w) (n : Nat) : Below B a (w.drewN n) := h.trans ⟨rfl, rfl, rfl, Nat.le_refl _, fun _ _ => rfl⟩
theorem ret_u8 {a b : Int} (h : a = b) : Ending.returned (.int .u8 a) = .returned (.int .u8 b) := by rw [h]
def withinB (t r e : Bool) (l : List Ptr.Nd) (P : Int) : Bool := if P < 0 then t else if Ptr.kin l P.toNat = 1 then r else e && Ptr.kin l P.toNat == 2
set_option maxHeartbeats 1000000 in
theorem within_any (b0 b1 b2 t r e : Bool) (A : Option Addr) (l : List Ptr.Nd) (c : Nat) (P : Int) (w : World) (hr : RdN w A l) (hP : P < l.length) :
    Calls Tryz.prog 76 #[.agg #[.bool b0, .bool b1, .bool b2, .bool t, .bool r, .bool e], .slice A l.length c, .int .i64 P] w fun e' w' => e' = .returned (.bool (withinB t r e l P)) ∧ Below w.heap.size w w' := by
  have hbx : ∀ o, Below w.heap.size w (w.alloc o) := fun o => (Below.refl _ _).alloc (Nat.le_refl _) o
  by_cases hq : P < 0
  · have hX : Kept (withinB t r e l P = t) := ⟨if_pos hq⟩
    have HB := Kept.mk hbx
    clear hr hbx
    go_enter Tryz.func76, Tryz.ntmps76
    go_wp2
    go_ret
    exact ⟨ret_bool (by rw [hX.out]), HB.out _⟩
  · obtain ⟨p, rfl⟩ : ∃ p : Nat, P = p := ⟨P.toNat, by omega⟩
    have hX : Kept (withinB t r e l (p : Int) = if Ptr.kin l p = 1 then r else e && Ptr.kin l p == 2) := ⟨by unfold withinB; rw [if_neg hq, Int.toNat_natCast]⟩
    obtain ⟨b, off, rfl, _⟩ := hr.at_ (i := p) (by omega)
    have c0 := fun o => ((hr.below (hbx o)).cells (i := p) (by omega)).1
    simp only at c0
    generalize Ptr.kin l p = K at c0 hX
    have j0 : (0 : Int) ≤ (p : Int) := by omega
    have hq' : ¬ (p : Int) < 0 := hq
    have HB := Kept.mk hbx
    clear hq hr hbx
    by_cases h1 : K = 1
    · subst h1
      go_enter Tryz.func76, Tryz.ntmps76
      go_wp2
      go_ret
      exact ⟨ret_bool (by rw [hX.out]; rfl), HB.out _⟩
    · have e1 : ((K : Int) == 1) = false := by simp; omega
      rw [if_neg h1] at hX
      have e2 : ((K : Int) == 2) = (K == 2) := by rw [Bool.eq_iff_iff]; simp; omega
      clear h1
      cases e
      · go_enter Tryz.func76, Tryz.ntmps76
        go_wp2
        go_ret
        exact ⟨ret_bool (by rw [hX.out]; rfl), HB.out _⟩
      · go_enter Tryz.func76, Tryz.ntmps76
        go_wp2
        go_ret
        exact ⟨ret_bool (by rw [hX.out]; rfl), HB.out _⟩
theorem box_below (w : World) (o : Obj) : Below w.heap.size w (w.alloc o) := (Below.refl _ _).alloc (Nat.le_refl _) o
theorem beq_cast (U n : Nat) : ((U : Int) == (n : Int)) = (U == n) := by rw [Bool.eq_iff_iff, beq_iff_eq, beq_iff_eq]; omega

end Go.Proofs.YtemfmidhekdekaaGreatDoor.Wtr
namespace Go.Proofs.YtemfmidhekdekaaGreatDoor.Ptr
open Go

def pgood (l : List Nd) (root : Bool) (i : Nat) : Bool := openB l i && (if (root && i == 0) = true then headB l i else !(root && decide (par l i < 0)) && fitsB l i)
def pallB (l : List Nd) (root : Bool) : Nat → Bool
  | 0 => true
  | i + 1 => pallB l root i && pgood l root i
theorem pgood_good {l : List Nd} {root : Bool} {i : Nat} (h : pgood l root i = true) : good l root i = true := by
  unfold pgood at h
  unfold good
  rw [Bool.and_eq_true] at h ⊢
  refine ⟨h.1, ?_⟩
  have h2 := h.2
  by_cases e : (root && i == 0) = true
  · rw [if_pos e] at h2 ⊢
    exact h2
  · rw [if_neg e, Bool.and_eq_true] at h2
    rw [if_neg e]
    exact h2.2
theorem pallB_allB {l : List Nd} {root : Bool} : ∀ {n : Nat}, pallB l root n = true → allB l root n = true
  | 0, _ => rfl
  | n + 1, h => by
    unfold pallB at h
    rw [Bool.and_eq_true] at h
    unfold allB
    rw [Bool.and_eq_true]
    exact ⟨pallB_allB h.1, pgood_good h.2⟩
theorem pallB_no {l : List Nd} {root : Bool} {i : Nat} (h : pgood l root i = false) : ∀ n, i < n → pallB l root n = false
  | 0, hn => by omega
  | n + 1, hn => by
    unfold pallB
    by_cases e : i = n
    · subst e; rw [h, Bool.and_false]
    · rw [pallB_no h n (by omega), Bool.false_and]
theorem tops_root {l : List Nd} : ∀ {n : Nat}, pallB l true n = true → 0 < n → tops l n = 1
  | 0, _, h => by omega
  | n + 1, h, _ => by
    unfold pallB at h
    rw [Bool.and_eq_true] at h
    have hg := h.2
    unfold pgood at hg
    rw [Bool.and_eq_true] at hg
    unfold tops
    by_cases e : n = 0
    · subst e
      have := open_range (l := l) (i := 0) (fun k hk => by omega) hg.1
      rw [if_pos (by omega)]
      rfl
    · have hg2 := hg.2
      rw [if_neg (by simpa using e), Bool.and_eq_true] at hg2
      rw [tops_root h.1 (by omega), if_neg (by simpa using hg2.1)]
theorem tops_mono (l : List Nd) (n : Nat) : tops l n ≤ tops l (n + 1) := by
  rw [tops]; omega
theorem allB_pallB {l : List Nd} : ∀ {n : Nat}, allB l true n = true → tops l n ≤ 1 → pallB l true n = true
  | 0, _, _ => rfl
  | n + 1, h, ht => by
    unfold allB at h
    rw [Bool.and_eq_true] at h
    have hp := allB_pallB h.1 (Nat.le_trans (tops_mono l n) ht)
    unfold pallB
    rw [hp, Bool.true_and]
    have hg := h.2
    unfold good at hg
    rw [Bool.and_eq_true] at hg
    unfold pgood
    rw [hg.1, Bool.true_and]
    by_cases e : n = 0
    · subst e
      have h2 := hg.2
      rw [if_pos (by simp)] at h2 ⊢
      exact h2
    · have h2 := hg.2
      rw [if_neg (by simpa using e)] at h2 ⊢
      rw [h2, Bool.and_true]
      have h1 := tops_root hp (by omega)
      rw [tops, h1] at ht
      by_cases hq : par l n < 0
      · rw [if_pos hq] at ht; omega
      · rw [decide_eq_false hq]; rfl
theorem pallB_false {l : List Nd} : ∀ {n : Nat}, pallB l false n = allB l false n
  | 0 => rfl
  | n + 1 => by
    unfold pallB allB
    rw [pallB_false]
    congr 1
theorem chk_no {l : List Nd} {root : Bool} (hl : ¬ 16384 < l.length) (h : pallB l root l.length = false) : chk l root = 4 := by
  unfold chk
  rw [if_neg hl]
  cases ha : allB l root l.length with
  | false => rw [if_pos rfl]
  | true =>
    rw [if_neg (by simp)]
    cases root with
    | false => rw [pallB_false, ha] at h; cases h
    | true =>
      rw [if_pos]
      refine ⟨rfl, .inl fun e => ?_⟩
      rw [allB_pallB ha (by omega)] at h
      cases h
theorem chk_yes {l : List Nd} {root : Bool} (hl : ¬ 16384 < l.length) (h : pallB l root l.length = true) : chk l root = if root = true ∧ elems l l.length ≠ 1 then 4 else if 60 < deepest l l.length then 131 else 0 := by
  unfold chk
  rw [if_neg hl, pallB_allB h, if_neg (by simp)]
  cases root with
  | false => simp
  | true =>
    by_cases h0 : l.length = 0
    · have h1 : tops l l.length ≠ 1 := by rw [h0]; simp [tops]
      have h2 : elems l l.length ≠ 1 := by rw [h0]; simp [elems]
      rw [if_pos ⟨rfl, .inl h1⟩, if_pos ⟨rfl, h2⟩]
    · have h1 := tops_root h (by omega)
      by_cases h2 : elems l l.length = 1
      · rw [if_neg (fun hc => hc.2.elim (fun h => h h1) (fun h => h h2)), if_neg (c := true = true ∧ elems l l.length ≠ 1) (fun hc => hc.2 h2)]
      · rw [if_pos ⟨rfl, .inr h2⟩, if_pos ⟨rfl, h2⟩]
theorem elems_at (l : List Nd) (i : Nat) : elems l (i + 1) = elems l i + if kin l i = 2 ∧ par l i = 0 then 1 else 0 := rfl
theorem elems_le' (l : List Nd) : ∀ i, elems l i ≤ i
  | 0 => Nat.le_refl _
  | i + 1 => by
    have := elems_le' l i
    rw [elems_at]
    split <;> omega
theorem dep_le (l : List Nd) : ∀ f i, dep l f i ≤ f
  | 0, _ => Nat.le_refl _
  | f + 1, i => by
    unfold dep
    have := dep_le l f (par l i).toNat
    split <;> split <;> omega
theorem depN_le (l : List Nd) (i : Nat) : depN l i ≤ i + 1 := dep_le l (i + 1) i
theorem deepest_at (l : List Nd) (i : Nat) : deepest l (i + 1) = if kin l i = 2 then max (deepest l i) (depN l i) else deepest l i := rfl
theorem deepest_le (l : List Nd) : ∀ i, deepest l i ≤ i
  | 0 => Nat.le_refl _
  | i + 1 => by
    have := deepest_le l i
    have := depN_le l i
    rw [deepest_at]
    split <;> omega
/-- behind a node that is right: how deep it is -/
theorem depN_up {l : List Nd} {i : Nat} (h : Rng l (i + 1)) : depN l i = (if kin l i = 2 then 1 else 0) + (if par l i < 0 then 0 else depN l (par l i).toNat) := depN_step h i (by omega)
end Go.Proofs.YtemfmidhekdekaaGreatDoor.Ptr
namespace Go.Proofs.YtemfmidhekdekaaGreatDoor.Wtr
open Go Go.RowKit Go.Proofs.YtemfmidhekdekaaGreatDoor.Kb

/-- the rules of the kinds: named, valued, full; without a parent, under a root, under an element -/
def ruleTab : List Nat := [0, 0, 0, 0, 0, 0, 0, 0, 0, 0, 0, 0, 1, 0, 0, 1, 1, 1, 1, 1, 0, 0, 0, 1, 0, 1, 1, 1, 0, 1, 0, 1, 0, 1, 1, 1, 1, 1, 0, 1, 1, 1]
def Rules (w : World) : Prop := ∀ j x, ruleTab[j]? = some x → w.cell? ⟨0, j, none⟩ = some (.bool (x == 1))
theorem Rules.below {w w' : World} (h : Rules w) (hb : Below w.heap.size w w') : Rules w' := fun j x hx => cell_keep hb (h j x hx)
theorem rule_cell {w w' : World} (h : Rules w) (j x : Nat) (hx : ruleTab[j]? = some x) (v : Bool) (hb : Below w.heap.size w w') (hv : v = (x == 1) := by rfl) : w'.cell? ⟨0, j, none⟩ = some (.bool v) := by
  rw [hv]
  exact h.below hb j x hx
/-- what the walks of chapter 06 read of the package variables -/
def TEnv (w : World) : Prop := Wch.Env w ∧ Rules w ∧ FoldTab w ∧ ∃ m : Int, w.cell? ⟨1, 0, none⟩ = some (.int .i64 m)
theorem TEnv.below {w w' : World} (h : TEnv w) (hb : Below w.heap.size w w') : TEnv w' := by
  obtain ⟨h1, h2, h3, m, h4⟩ := h
  exact ⟨h1.below hb, h2.below hb, h3.below hb, m, cell_keep hb h4⟩
theorem box_at (w : World) (cs : Array Value) (t : TypeId) (o : Obj) (j : Nat) {v : Value} (h : cs[j]? = some v) : ((w.alloc (.cells cs t)).alloc o).cell? ⟨w.heap.size, j, none⟩ = some v := by
  refine cell_keep ((Below.refl _ _).alloc (Nat.le_refl _) o) ?_
  rw [World.cell?_alloc_new]
  exact h
theorem box_at2 (w : World) (cs : Array Value) (t : TypeId) (o : Obj) (j : Nat) {v : Value} (h : cs[j]? = some v) : ((w.alloc o).alloc (.cells cs t)).cell? ⟨w.heap.size + 1, j, none⟩ = some v := by
  have := World.cell?_alloc_new (w.alloc o) cs t j
  rw [World.size_alloc] at this
  rw [this]
  exact h
theorem name_call1 (X : ByteArray) (w : World) (hx : X.size ≤ 9223372036854775807) (hE : Wch.Env w) : Calls Tryz.prog 74 #[.string X] w fun e w' => e = .returned (.bool (Pch.nameL X.data.toList)) ∧ Below w.heap.size w w' := Wch.nametext_any X w hx hE
theorem text_call1 (X : ByteArray) (w : World) (hx : X.size ≤ 9223372036854775807) (hE : Wch.Env w) : Calls Tryz.prog 75 #[.string X] w fun e w' => e = .returned (.bool (Pch.textsL X.data.toList)) ∧ Below w.heap.size w w' := Wch.texts_any X w hx hE
/-- no node from a place on bears the name x -/
def freeFrom (l : List Ptr.Nd) (x : List UInt8) (i k : Nat) : Bool := (List.range' k (i - k)).all fun j => !decide (Ptr.nam l j = x)
theorem freeFrom_step (l : List Ptr.Nd) (x : List UInt8) (i k : Nat) (h : k < i) : freeFrom l x i k = (!decide (Ptr.nam l k = x) && freeFrom l x i (k + 1)) := by
  unfold freeFrom
  rw [show i - k = (i - (k + 1)) + 1 by omega, List.range'_succ, List.all_cons]
theorem freeFrom_end (l : List Ptr.Nd) (x : List UInt8) (i k : Nat) (h : ¬ k < i) : freeFrom l x i k = true := by
  unfold freeFrom
  rw [show i - k = 0 by omega]
  rfl
theorem freeFrom_eq (l : List Ptr.Nd) (x : List UInt8) (i a : Nat) : freeFrom l x i a = Ptr.freeB l x a i := by
  rw [Bool.eq_iff_iff, Ptr.freeB_iff]
  unfold freeFrom
  rw [List.all_eq_true]
  simp only [List.mem_range'_1, Bool.not_eq_true', decide_eq_false_iff_not]
  exact ⟨fun h k hk hki => h k (by omega), fun h k hk => h k (by omega) (by omega)⟩
theorem contains_has2 (a b : UInt8) : ∀ l : List UInt8, Lib.contains l [a, b] = Ptr.has2 a b l
  | [] => by simp [Lib.contains, Lib.index, Ptr.has2]
  | [x] => by simp [Lib.contains, Lib.index, Ptr.has2]
  | x :: y :: r => by
    have ih := contains_has2 a b (y :: r)
    have hge := Lib.index_ge (y :: r) [a, b]
    unfold Lib.contains at ih ⊢
    rw [Ptr.has2, ← ih, Lib.index]
    cases hp : List.isPrefixOf [a, b] (x :: y :: r) with
    | true =>
      simp [List.isPrefixOf] at hp
      simp [hp.1, hp.2]
    | false =>
      have hx : (x == a && y == b) = false := by
        simp [List.isPrefixOf] at hp
        simp
        intro h
        exact fun h2 => hp h.symm h2.symm
      rw [hx, Bool.false_or, if_neg (by simp)]
      generalize Lib.index (y :: r) [a, b] = z at hge ⊢
      by_cases e : z = -1
      · subst e; rfl
      · have e2 : (z == -1) = false := by simpa using e
        rw [e2]
        simp
        omega
theorem suffix_last (c : UInt8) (l : List UInt8) : Lib.hasSuffix l [c] = decide (l.getLast? = some c) := by
  unfold Lib.hasSuffix
  rw [Bool.eq_iff_iff, List.isSuffixOf_iff_suffix, decide_eq_true_eq]
  constructor
  · rintro ⟨t, rfl⟩; simp
  · intro h
    obtain ⟨t, rfl⟩ := List.getLast?_eq_some_iff.1 h
    exact ⟨t, rfl⟩
theorem contains_call (V : ByteArray) (a b : UInt8) (w : World) (hs : V.size ≤ 65536) (hE : TEnv w) : Calls Tryz.prog 20 #[.string V, .string ⟨#[a, b]⟩] w fun e w' => e = .returned (.bool (Ptr.has2 a b V.data.toList)) ∧ w = w' := by
  obtain ⟨_, _, _, m, hm⟩ := hE
  have h := Any.strings_Contains Tryz.lays144 V ⟨#[a, b]⟩ m w (by omega) hm
  rw [show (⟨#[a, b]⟩ : ByteArray).data.toList = [a, b] from rfl, contains_has2] at h
  exact h.mono fun e w' ⟨h1, h2⟩ => ⟨h1, h2.symm⟩
theorem suffix_call (V : ByteArray) (c : UInt8) (w : World) (hs : V.size ≤ 65536) : Calls Tryz.prog 77 #[.string V, .string ⟨#[c]⟩] w fun e w' => e = .returned (.bool (decide (V.data.toList.getLast? = some c))) ∧ w = w' := by
  have h := Any.strings_HasSuffix Tryz.lays100 V ⟨#[c]⟩ w (by omega)
  rw [show (⟨#[c]⟩ : ByteArray).data.toList = [c] from rfl, suffix_last] at h
  exact h.mono fun e w' ⟨h1, h2⟩ => ⟨h1, h2.symm⟩
theorem blank_head1 (V : ByteArray) (x : List UInt8) (h : V.data.toList = x) (hne : x ≠ []) (hs : V.size ≤ 65536) : ∃ B, Ptr.noBlank x = !B ∧ 1 ≤ V.size ∧ ∀ wx, Calls Tryz.prog 54 #[.string (V.extract 0 1)] wx fun e w' => e = .returned (.bool B) ∧ Below wx.heap.size wx w' := by
  have hl : V.data.toList.length = V.size := by rw [Array.length_toList]; rfl
  cases x with
  | nil => exact absurd rfl hne
  | cons c r =>
    refine ⟨Pch.blankC c, rfl, by rw [← hl, h]; simp, fun wx => ?_⟩
    have h1 := Wch.blank_any (V.extract 0 1) wx (by rw [ByteArray.size_extract]; omega)
    rw [Lib.extract_data, h] at h1
    simpa [Pch.blankL] using h1
end Go.Proofs.YtemfmidhekdekaaGreatDoor.Wtr
namespace Go.Proofs.YtemfmidhekdekaaGreatDoor.Wtr
open Go Go.RowKit Go.Proofs.YtemfmidhekdekaaGreatDoor.Kb

theorem eq_rule0 (w : World) : (binOp .eql 99 (.agg #[.bool false, .bool false, .bool false, .bool false, .bool false, .bool false]) (.agg #[.bool false, .bool false, .bool false, .bool false, .bool false, .bool false])).run Tryz.prog w = .ok (.bool true) w := by kernel_rfl
set_option maxRecDepth 100000 in
set_option maxHeartbeats 2000000 in
theorem pfits_no (D : Nat) (A : Option Addr) (l : List Ptr.Nd) (c i : Nat) (w : World) (hD0 : w.cell? ⟨D, 0, none⟩ = some (.slice A l.length c))
    (hr : RdN w A l) (hi : i < l.length) (hE : TEnv w) (hk : Ptr.kin l i = 0 ∨ Ptr.kin l i = 1 ∨ 7 ≤ Ptr.kin l i) (h255 : Ptr.kin l i ≤ 255) :
    Calls Tryz.prog 46 #[.pointer (some ⟨D, 0, none⟩), .int .i64 i] w fun e w' => e = .returned (.bool false) ∧ Below w.heap.size w w' := by
  obtain ⟨b, off, rfl, q0, q1, q2, q3⟩ := hr.at_ hi
  have i0 : (0 : Int) ≤ (i : Int) := by omega
  have i1 : (i : Int) < (l.length : Int) := by omega
  simp only at q0 q1 q2 q3
  have hEq := eq_rule0
  rcases hk with hk | hk | hk
  · rw [hk] at q0
    have r0 : ∀ o, (w.alloc o).cell? ⟨0, 0, none⟩ = some (.bool false) := fun o => rule_cell hE.2.1 0 0 rfl _ (box_below w o)
    have r1 : ∀ o, (w.alloc o).cell? ⟨0, 1, none⟩ = some (.bool false) := fun o => rule_cell hE.2.1 1 0 rfl _ (box_below w o)
    have r2 : ∀ o, (w.alloc o).cell? ⟨0, 2, none⟩ = some (.bool false) := fun o => rule_cell hE.2.1 2 0 rfl _ (box_below w o)
    have r3 : ∀ o, (w.alloc o).cell? ⟨0, 3, none⟩ = some (.bool false) := fun o => rule_cell hE.2.1 3 0 rfl _ (box_below w o)
    have r4 : ∀ o, (w.alloc o).cell? ⟨0, 4, none⟩ = some (.bool false) := fun o => rule_cell hE.2.1 4 0 rfl _ (box_below w o)
    have r5 : ∀ o, (w.alloc o).cell? ⟨0, 5, none⟩ = some (.bool false) := fun o => rule_cell hE.2.1 5 0 rfl _ (box_below w o)
    clear hr hE hk
    go_enter Tryz.func46, Tryz.ntmps46
    go_wp2
    go_ret
    exact ⟨rfl, box_below _ _⟩
  · rw [hk] at q0
    have r0 : ∀ o, (w.alloc o).cell? ⟨0, 6, none⟩ = some (.bool false) := fun o => rule_cell hE.2.1 6 0 rfl _ (box_below w o)
    have r1 : ∀ o, (w.alloc o).cell? ⟨0, 7, none⟩ = some (.bool false) := fun o => rule_cell hE.2.1 7 0 rfl _ (box_below w o)
    have r2 : ∀ o, (w.alloc o).cell? ⟨0, 8, none⟩ = some (.bool false) := fun o => rule_cell hE.2.1 8 0 rfl _ (box_below w o)
    have r3 : ∀ o, (w.alloc o).cell? ⟨0, 9, none⟩ = some (.bool false) := fun o => rule_cell hE.2.1 9 0 rfl _ (box_below w o)
    have r4 : ∀ o, (w.alloc o).cell? ⟨0, 10, none⟩ = some (.bool false) := fun o => rule_cell hE.2.1 10 0 rfl _ (box_below w o)
    have r5 : ∀ o, (w.alloc o).cell? ⟨0, 11, none⟩ = some (.bool false) := fun o => rule_cell hE.2.1 11 0 rfl _ (box_below w o)
    clear hr hE hk
    go_enter Tryz.func46, Tryz.ntmps46
    go_wp2
    go_ret
    exact ⟨rfl, box_below _ _⟩
  · have k7 : (7 : Int) ≤ ((Ptr.kin l i : Nat) : Int) := by omega
    have k8 : ((Ptr.kin l i : Nat) : Int) ≤ 255 := by omega
    generalize Ptr.kin l i = K at q0 k7 k8
    clear hr hE hk h255
    go_enter Tryz.func46, Tryz.ntmps46
    go_wp2
    go_ret
    exact ⟨rfl, box_below _ _⟩
end Go.Proofs.YtemfmidhekdekaaGreatDoor.Wtr
