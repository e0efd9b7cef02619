/- The walks over the document's parent, sibling, has, xml, deep; the program's within (chapter 06). -/
import Derived.Test.YtkjodleggfacbaaDoorTreeWalksA
namespace Go.Proofs.YtkjodleggfacbaaDoor.Wtr
open Go Go.RowKit Go.Proofs.YtkjodleggfacbaaDoor.Kb

theorem below_drewN {B : Nat} {a w : World} (h : Below B a w) (n : Nat) : Below B a (w.drewN n) := h.trans ⟨rfl, rfl, rfl, Nat.le_refl _, fun _ _ => rfl⟩
theorem ret_u8 {a b : Int} (h : a = b) : Ending.returned (.int .u8 a) = .returned (.int .u8 b) := by rw [h]
def upK (l : List Ptr.Nd) (P : Int) : Nat := if P < 0 then 0 else Ptr.kin l P.toNat
set_option maxHeartbeats 1000000 in
theorem refParent_any (A : Option Addr) (l : List Ptr.Nd) (c i : Nat) (w : World) (hr : RdN w A l) (hi : i < l.length) (hP : Ptr.par l i < l.length) :
    Calls Tryd.prog 51 #[.slice A l.length c, .int .i64 i] w fun e w' => e = .returned (.int .u8 (upK l (Ptr.par l i))) ∧ w = w' := by
  obtain ⟨b, off, rfl, _, _, _, q3⟩ := hr.at_ hi
  have HRD := Kept.mk hr
  simp only at q3
  generalize Ptr.par l i = Q at q3 hP
  have i0 : (0 : Int) ≤ (i : Int) := by omega
  have i1 : (i : Int) < (l.length : Int) := by omega
  clear hr
  by_cases hq : Q < 0
  · have hX : Kept (upK l Q = 0) := ⟨if_pos hq⟩
    go_enter Tryd.func51, Tryd.ntmps51
    go_wp2
    go_ret
    exact ⟨ret_u8 (by rw [hX.out]; rfl), rfl⟩
  · obtain ⟨q, rfl⟩ : ∃ q : Nat, Q = q := ⟨Q.toNat, by omega⟩
    have hX : Kept (upK l (q : Int) = Ptr.kin l q) := ⟨by unfold upK; rw [if_neg hq, Int.toNat_natCast]⟩
    obtain ⟨c0, _⟩ := HRD.out.cells (i := q) (by omega)
    simp only at c0
    have j0 : (0 : Int) ≤ (q : Int) := by omega
    have hq' : ¬ (q : Int) < 0 := hq
    clear hq
    go_enter Tryd.func51, Tryd.ntmps51
    go_wp2
    go_ret
    exact ⟨ret_u8 (by rw [hX.out]), rfl⟩
set_option maxHeartbeats 2000000 in
theorem refSibling_any (A : Option Addr) (l : List Ptr.Nd) (c i : Nat) (w : World) (hr : RdN w A l) (hi : i < l.length) (hR : Ptr.Rng l i) (hQ : -1 ≤ Ptr.par l i) (hl : l.length ≤ 100000) :
    Calls Tryd.prog 55 #[.slice A l.length c, .int .i64 i] w fun e w' => e = .returned (.int .i64 (Ptr.lastC l (Ptr.par l i) i)) ∧ Below w.heap.size w w' := by
  obtain ⟨b, off, rfl, _, _, _, q3⟩ := hr.at_ hi
  have HRD := Kept.mk hr
  simp only at q3
  generalize Ptr.par l i = Q at q3 hQ
  generalize hT : Ptr.lastC l Q i = T
  have HT := Lib.hid hT
  have HR := Kept.mk hR
  have HQ3 := Kept.mk q3
  have i0 : (0 : Int) ≤ (i : Int) := by omega
  have i1 : (i : Int) < (l.length : Int) := by omega
  clear hr hR hT q3
  go_enter Tryd.func55, Tryd.ntmps55
  go_wp2
  go_loopw [5] (fun k wx => ∃ m : Nat, m ≤ i ∧ k = .int .i64 ((m : Int) - 1) ∧ Below w.heap.size w wx ∧ Hid (Ptr.lastC l Q m = T)) (fun k _ => (intOf k + 1).toNat)
  case atStart => exact ⟨i, by omega, rfl, Below.refl _ _, HT.out⟩
  case round =>
    obtain ⟨m, hm, rfl, hb, H⟩ := hrel
    have HB := Kept.mk hb
    have q3 := cell_keep hb HQ3.out
    by_cases hlt : Q < (m : Int) - 1
    · obtain ⟨j, rfl⟩ : ∃ j, m = j + 1 := ⟨m - 1, by omega⟩
      have hjl : j < l.length := by omega
      obtain ⟨c0, _, _, c3⟩ := (HRD.out.below hb).cells hjl
      have h := H.out
      rw [Ptr.lastC_step] at h
      simp only at c0 c3
      have ej : ((j + 1 : Nat) : Int) - 1 = (j : Int) := by omega
      rw [ej] at hlt ⊢
      have j0 : (0 : Int) ≤ (j : Int) := by omega
      have j1 : (j : Int) < (l.length : Int) := by omega
      generalize Ptr.par l j = P at c3 h
      generalize Ptr.kin l j = K at c0 h
      clear hb H ej
      by_cases e1 : P = Q
      · subst e1
        by_cases e2 : K = 3
        · subst e2
          rw [if_neg (by simp)] at h
          have H1 := Lib.hid h
          clear h
          go_wp2
          go_quiet (fail)
          go_wp2
          go_roundw
          case rel => exact ⟨j, by omega, rfl, below_drewN HB.out _, H1.out⟩
          case measure => simp [intOf]
        · rw [if_pos ⟨rfl, e2⟩] at h
          have H1 := Lib.hid h
          have e3 : ((K : Int) != 3) = true := by simp; omega
          clear h e2
          go_wp2
          go_quiet (fail)
          go_wp2
          go_ret
          exact ⟨ret_i64 H1.out, below_drewN HB.out _⟩
      · rw [if_neg (fun e => e1 e.1)] at h
        have H1 := Lib.hid h
        have e3 : (P == Q) = false := by simpa using e1
        clear h e1
        go_wp2
        go_quiet (fail)
        go_wp2
        go_roundw
        case rel => exact ⟨j, by omega, rfl, below_drewN HB.out _, H1.out⟩
        case measure => simp [intOf]
    · have h := H.out
      rw [Ptr.lastC_low HR.out Q m hm (by omega)] at h
      have H1 := Lib.hid h
      clear h H hb
      go_wp2
      go_ret
      exact ⟨ret_i64 H1.out, HB.out⟩
theorem two_of (s : ByteArray) (k : Nat) (h : k + 1 < s.size) : (s.extract k (k + 2)).toList = [s[k], s[k + 1]] := by
  have hl : s.data.toList.length = s.size := by rw [Array.length_toList]; rfl
  rw [ByteArray.toList_eq, Lib.extract_data, show k + 2 - k = 2 by omega, List.drop_eq_getElem_cons (by omega : k < s.data.toList.length), List.drop_eq_getElem_cons (by omega : k + 1 < s.data.toList.length)]
  rfl
theorem has2_step (a b : UInt8) (s : ByteArray) (k : Nat) (h : k + 1 < s.size) : Ptr.has2 a b (s.data.toList.drop k) = ((s[k] == a && s[k + 1] == b) || Ptr.has2 a b (s.data.toList.drop (k + 1))) := by
  have hl : s.data.toList.length = s.size := by rw [Array.length_toList]; rfl
  rw [List.drop_eq_getElem_cons (by omega : k < s.data.toList.length), List.drop_eq_getElem_cons (by omega : k + 1 < s.data.toList.length)]
  rfl
theorem has2_end (a b : UInt8) (s : ByteArray) (k : Nat) (h : ¬ k + 1 < s.size) : Ptr.has2 a b (s.data.toList.drop k) = false := by
  have hl : s.data.toList.length = s.size := by rw [Array.length_toList]; rfl
  have h1 : (s.data.toList.drop k).length ≤ 1 := by rw [List.length_drop]; omega
  match hd : s.data.toList.drop k with
  | [] => rfl
  | [_] => rfl
  | _ :: _ :: _ => rw [hd] at h1; simp at h1
set_option maxRecDepth 100000 in
set_option maxHeartbeats 1000000 in
theorem refHas_any (s p : ByteArray) (a b : UInt8) (w : World) (hs : s.size ≤ 4611686018427387904) (hps : p.size = 2) (hp : p.toList = [a, b]) :
    Calls Tryd.prog 56 #[.string s, .string p] w fun e w' => e = .returned (.bool (Ptr.has2 a b s.data.toList)) ∧ w = w' := by
  generalize hT : Ptr.has2 a b s.data.toList = T
  have HT := Lib.hid hT
  have HP := Kept.mk hp
  clear hT hp
  go_enter Tryd.func56, Tryd.ntmps56
  go_wp2
  go_loop [5] (fun i => ∃ k : Nat, k ≤ s.size ∧ i = .int .i64 k ∧ Hid (Ptr.has2 a b (s.data.toList.drop k) = T)) (fun i => s.size - (intOf i).toNat)
  case atStart => exact ⟨0, by omega, rfl, HT.out⟩
  case round =>
    obtain ⟨k, hk, rfl, H⟩ := hrel
    have j0 : (0 : Int) ≤ (k : Int) := by omega
    have h := H.out
    by_cases hlt : k + 1 < s.size
    · have j1 : (k : Int) + 2 ≤ (s.size : Int) := by omega
      have j2 : ((k : Int) + 2).toNat = k + 2 := by omega
      have j3 : (0 : Int) ≤ (k : Int) + 2 := by omega
      have j4 : (k : Int) ≤ (k : Int) + 2 := by omega
      rw [has2_step a b s k hlt] at h
      have htw := two_of s k hlt
      have hq : ((s.extract k (k + 2)).toList == p.toList) = (s[k] == a && s[k + 1] == b) := by
        rw [htw, HP.out, Bool.eq_iff_iff]
        simp
      cases hc : (s[k] == a && s[k + 1] == b) with
      | true =>
        rw [hc] at h hq
        have H1 : Hid (T = true) := h.symm
        clear h H htw hc
        go_wp2
        go_ret
        exact ⟨ret_bool H1.out.symm, rfl⟩
      | false =>
        rw [hc, Bool.false_or] at h
        rw [hc] at hq
        have H1 := Lib.hid h
        clear h H htw hc
        go_wp2
        go_round
        case rel => exact ⟨k + 1, by omega, by go_num, H1.out⟩
        case measure => simp [intOf]; omega
    · have j1 : ¬ (k : Int) + 2 ≤ (s.size : Int) := by omega
      rw [has2_end a b s k hlt] at h
      have H1 := Lib.hid h
      clear h H
      go_wp2
      go_ret
      exact ⟨ret_bool H1.out, rfl⟩
end Go.Proofs.YtkjodleggfacbaaDoor.Wtr
