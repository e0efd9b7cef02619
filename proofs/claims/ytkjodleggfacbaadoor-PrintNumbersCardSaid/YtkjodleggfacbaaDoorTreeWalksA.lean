/- The walks over the small functions of chapter 06: open, within; the document's parent, sibling, has, xml, deep. -/
import Derived.Test.YtkjodleggfacbaaDoorNodeKit
namespace Go.Proofs.YtkjodleggfacbaaDoor.Wtr
open Go Go.RowKit Go.Proofs.YtkjodleggfacbaaDoor.Kb

theorem ret_i64 {a b : Int} (h : a = b) : Ending.returned (.int .i64 a) = .returned (.int .i64 b) := by rw [h]
set_option maxHeartbeats 1000000 in
theorem open_any (D : Nat) (A : Option Addr) (l : List Ptr.Nd) (c i : Nat) (w : World) (hD : w.cell? ⟨D, 0, none⟩ = some (.slice A l.length c)) (hr : RdN w A l) (hi : i < l.length) (hR : Ptr.Rng l i) (hl : l.length ≤ 100000) :
    Calls Tryd.prog 38 #[.pointer (some ⟨D, 0, none⟩), .int .i64 i] w fun e w' => e = .returned (.bool (Ptr.openB l i)) ∧ w = w' := by
  obtain ⟨b, off, rfl, _, _, _, q3⟩ := hr.at_ hi
  have HRD := Kept.mk hr
  unfold Ptr.openB
  simp only at q3
  generalize Ptr.par l i = Q at q3
  generalize hT : Ptr.chain l Q (i + 1) ((i : Int) - 1) = T
  have HT := Lib.hid hT
  have HR := Kept.mk hR
  have i0 : (0 : Int) ≤ (i : Int) := by omega
  have i1 : (i : Int) < (l.length : Int) := by omega
  clear hT hr hR
  go_enter Tryd.func38, Tryd.ntmps38
  go_wp2
  go_loop [5] (fun p => ∃ (P : Int) (f : Nat), p = .int .i64 P ∧ -1 ≤ P ∧ P < i ∧ P + 2 ≤ f ∧ Hid (Ptr.chain l Q f P = T)) (fun p => (intOf p + 1).toNat)
  case atStart => exact ⟨(i : Int) - 1, i + 1, rfl, by omega, by omega, by omega, HT.out⟩
  case round =>
    obtain ⟨P, f, rfl, p0, p1, p2, H⟩ := hrel
    obtain ⟨f, rfl⟩ : ∃ g, f = g + 1 := ⟨f - 1, by omega⟩
    have h := H.out
    rw [Ptr.chain_at] at h
    by_cases hp : P < 0
    · obtain rfl : P = -1 := by omega
      have hX : Kept (T = ((-1 : Int) == Q)) := ⟨by
        rw [← h]
        by_cases e : (-1 : Int) = Q
        · rw [if_pos e, e, beq_self_eq_true]
        · rw [if_neg e, if_pos hp, beq_eq_false_iff_ne.2 e]⟩
      clear h H
      go_wp2
      go_ret
      exact ⟨ret_bool hX.out.symm, rfl⟩
    · obtain ⟨p, rfl⟩ : ∃ p : Nat, P = p := ⟨P.toNat, by omega⟩
      by_cases e : (p : Int) = Q
      · rw [if_pos e] at h
        have hX : Kept (T = true) := ⟨h.symm⟩
        subst e
        clear h H
        go_wp2
        go_ret
        exact ⟨ret_bool (by rw [hX.out]), rfl⟩
      · rw [if_neg e, if_neg hp, Int.toNat_natCast] at h
        have hpl : p < l.length := by omega
        obtain ⟨_, _, _, c3⟩ := HRD.out.cells hpl
        have hrg := HR.out p (by omega)
        simp only at c3
        generalize Ptr.par l p = N at h c3 hrg
        have H1 := Lib.hid h
        have j0 : (0 : Int) ≤ (p : Int) := by omega
        have j1 : (p : Int) < (l.length : Int) := by omega
        have e1 : ((p : Int) != Q) = true := by simpa using e
        obtain ⟨n0, n1⟩ := hrg
        clear h H e
        go_wp2
        go_round
        case rel => exact ⟨N, f, rfl, n0, by omega, by omega, H1.out⟩
        case measure => simp [intOf]; omega
end Go.Proofs.YtkjodleggfacbaaDoor.Wtr
