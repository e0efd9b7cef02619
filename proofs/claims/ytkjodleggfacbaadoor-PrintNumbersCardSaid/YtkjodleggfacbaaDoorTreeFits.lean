/- The walk over the program's fits (chapter 06), as a whole. -/
import Derived.Test.YtkjodleggfacbaaDoorTreeFits2
import Derived.Test.YtkjodleggfacbaaDoorTreeFits3
import Derived.Test.YtkjodleggfacbaaDoorTreeFits4
import Derived.Test.YtkjodleggfacbaaDoorTreeFits5
import Derived.Test.YtkjodleggfacbaaDoorTreeFits6
import Derived.Test.YtkjodleggfacbaaDoorTreeFitsN
namespace Go.Proofs.YtkjodleggfacbaaDoor.Wtr
open Go Go.RowKit Go.Proofs.YtkjodleggfacbaaDoor.Kb

theorem within_in (l : List Ptr.Nd) (P : Int) : withinB true true true l P = Ptr.insideB l P := by
  unfold withinB Ptr.insideB
  by_cases h : P < 0
  · rw [if_pos h, decide_eq_true h]; rfl
  · rw [if_neg h, decide_eq_false h]
    by_cases k : Ptr.kin l P.toNat = 1
    · rw [if_pos k, k]; rfl
    · rw [if_neg k, beq_eq_false_iff_ne.2 k]; rfl
theorem within_elem (l : List Ptr.Nd) (P : Int) : withinB false false true l P = Ptr.elemB l P := by
  unfold withinB Ptr.elemB
  by_cases h : P < 0
  · rw [if_pos h, decide_eq_true h]; rfl
  · rw [if_neg h, decide_eq_false h]
    by_cases k : Ptr.kin l P.toNat = 1
    · rw [if_pos k, k]; rfl
    · rw [if_neg k]; rfl
theorem within_under (l : List Ptr.Nd) (P : Int) : withinB true false true l P = Ptr.underB l P := by
  unfold withinB Ptr.underB
  by_cases h : P < 0
  · rw [if_pos h, decide_eq_true h]; rfl
  · rw [if_neg h, decide_eq_false h]
    by_cases k : Ptr.kin l P.toNat = 1
    · rw [if_pos k, k]; rfl
    · rw [if_neg k]; rfl
theorem no_name (x : List UInt8) : (!Pch.nameL x && decide (x = [])) = decide (x = []) := by
  by_cases h : x = []
  · subst h; rfl
  · rw [decide_eq_false h, Bool.and_false]
theorem fits_any (D gl : Nat) (tp : Int) (A : Option Addr) (l : List Ptr.Nd) (c i : Nat) (w : World) (hD0 : w.cell? ⟨D, 0, none⟩ = some (.slice A l.length c)) (hD2 : w.cell? ⟨D, 2, none⟩ = some (.slice (some ⟨gl, 0, none⟩) l.length l.length)) (hD3 : w.cell? ⟨D, 3, none⟩ = some (.int .i64 tp))
    (hBF : if Ptr.par l i < 0 then tp = Ptr.lastC l (Ptr.par l i) i else w.cell? ⟨gl, (Ptr.par l i).toNat, none⟩ = some (.int .i64 (Ptr.lastC l (Ptr.par l i) i)))
    (hr : RdN w A l) (hi : i < l.length) (hP : -1 ≤ Ptr.par l i ∧ Ptr.par l i < i) (hl : l.length ≤ 100000) (hn : (Ptr.nam l i).length ≤ 9223372036854775807) (hv : (Ptr.val l i).length ≤ 9223372036854775807) (hE : TEnv w) (h255 : Ptr.kin l i ≤ 255) :
    Calls Tryd.prog 39 #[.pointer (some ⟨D, 0, none⟩), .int .i64 i] w fun e w' => e = .returned (.bool (Ptr.fitsB l i)) ∧ Below w.heap.size w w' := by
  unfold Ptr.fitsB Ptr.fitsK
  by_cases k2 : Ptr.kin l i = 2
  · have h := pfits_2 D gl tp A l c i w hD0 hD2 hD3 hBF hr hi hP hl hn hv hE k2
    rw [if_pos k2, ← within_in]
    have e : (Pch.nameL (Ptr.nam l i) && (decide (Ptr.val l i = []) && withinB true true true l (Ptr.par l i))) = (Pch.textsL (Ptr.val l i) && decide ((Ptr.val l i).length ≤ 65536) && (withinB true true true l (Ptr.par l i) && Pch.nameL (Ptr.nam l i) && decide (Ptr.val l i = []))) := by
      by_cases hz : Ptr.val l i = []
      · rw [hz, show Pch.textsL [] = true from rfl, decide_eq_true (show ([] : List UInt8).length ≤ 65536 by simp)]
        cases withinB true true true l (Ptr.par l i) <;> cases Pch.nameL (Ptr.nam l i) <;> rfl
      · rw [decide_eq_false hz]
        cases withinB true true true l (Ptr.par l i) <;> cases Pch.nameL (Ptr.nam l i) <;> simp
    rw [← e]
    exact h
  rw [if_neg k2]
  by_cases k3 : Ptr.kin l i = 3
  · have h := pfits_3 D gl tp A l c i w hD0 hD2 hD3 hBF hr hi hP hl hn hv hE k3
    rw [if_pos k3, ← within_elem, ← freeFrom_eq]
    generalize Pch.nameL (Ptr.nam l i) = a at h ⊢
    generalize decide ((Ptr.val l i).length ≤ 65536) = b at h ⊢
    generalize Pch.textsL (Ptr.val l i) = d at h ⊢
    generalize withinB false false true l (Ptr.par l i) = f at h ⊢
    generalize decide (Ptr.lastC l (Ptr.par l i) i < 0) = g at h ⊢
    generalize freeFrom l (Ptr.nam l i) i ((Ptr.par l i).toNat + 1) = k at h ⊢
    rw [show (d && b && (f && a && g && k)) = (a && (b && (d && (f && (g && k))))) by cases a <;> cases b <;> cases d <;> cases f <;> cases g <;> cases k <;> rfl]
    exact h
  rw [if_neg k3]
  by_cases k4 : Ptr.kin l i = 4
  · have h := pfits_4 D gl tp A l c i w hD0 hD2 hD3 hBF hr hi hP hl hn hv hE k4
    rw [if_pos k4, ← within_under, ← no_name]
    have e9 : (!decide (Ptr.kin l (Ptr.lastC l (Ptr.par l i) i).toNat = 4)) = !(Ptr.kin l (Ptr.lastC l (Ptr.par l i) i).toNat == 4) := rfl
    rw [e9]
    generalize Pch.nameL (Ptr.nam l i) = a at h ⊢
    generalize decide ((Ptr.val l i).length ≤ 65536) = b at h ⊢
    generalize Pch.textsL (Ptr.val l i) = d at h ⊢
    generalize withinB true false true l (Ptr.par l i) = f at h ⊢
    generalize decide (Ptr.nam l i = []) = g at h ⊢
    generalize decide (Ptr.val l i = []) = k at h ⊢
    generalize (decide (Ptr.lastC l (Ptr.par l i) i < 0) || !(Ptr.kin l (Ptr.lastC l (Ptr.par l i) i).toNat == 4)) = m at h ⊢
    rw [show (d && b && (f && (!a && g) && !k && m)) = (!a && (g && (!k && (b && (d && (f && m)))))) by cases a <;> cases b <;> cases d <;> cases f <;> cases g <;> cases k <;> cases m <;> rfl]
    exact h
  rw [if_neg k4]
  by_cases k5 : Ptr.kin l i = 5
  · have h := pfits_5 D gl tp A l c i w hD0 hD2 hD3 hBF hr hi hP hl hn hv hE k5
    rw [if_pos k5, ← within_in, ← no_name]
    generalize Pch.nameL (Ptr.nam l i) = a at h ⊢
    generalize decide ((Ptr.val l i).length ≤ 65536) = b at h ⊢
    generalize Pch.textsL (Ptr.val l i) = d at h ⊢
    generalize withinB true true true l (Ptr.par l i) = f at h ⊢
    generalize decide (Ptr.nam l i = []) = g at h ⊢
    generalize Ptr.has2 45 45 (Ptr.val l i) = k at h ⊢
    generalize decide ((Ptr.val l i).getLast? = some 45) = m at h ⊢
    rw [show (d && b && (f && (!a && g) && !k && !m)) = (!a && (g && (b && (d && (f && (!k && !m)))))) by cases a <;> cases b <;> cases d <;> cases f <;> cases g <;> cases k <;> cases m <;> rfl]
    exact h
  rw [if_neg k5]
  by_cases k6 : Ptr.kin l i = 6
  · have h := pfits_6 D gl tp A l c i w hD0 hD2 hD3 hBF hr hi hP hl hn hv hE k6
    rw [if_pos k6, ← within_in]
    generalize Pch.nameL (Ptr.nam l i) = a at h ⊢
    generalize decide ((Ptr.val l i).length ≤ 65536) = b at h ⊢
    generalize Pch.textsL (Ptr.val l i) = d at h ⊢
    generalize withinB true true true l (Ptr.par l i) = f at h ⊢
    generalize Ptr.isXml (Ptr.nam l i) = g at h ⊢
    generalize Ptr.has2 63 62 (Ptr.val l i) = k at h ⊢
    generalize Ptr.noBlank (Ptr.val l i) = m at h ⊢
    rw [show (d && b && (f && a && !g && !k && m)) = (a && (b && (d && (f && (!g && (!k && m)))))) by cases a <;> cases b <;> cases d <;> cases f <;> cases g <;> cases k <;> cases m <;> rfl]
    exact h
  rw [if_neg k6, Bool.and_false]
  exact pfits_no D A l c i w hD0 hr hi hE (by omega) h255
end Go.Proofs.YtkjodleggfacbaaDoor.Wtr
