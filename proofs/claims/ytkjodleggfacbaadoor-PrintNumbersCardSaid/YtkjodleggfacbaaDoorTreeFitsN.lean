/- The walk over the program's fits (chapter 06), at nodes of no kind. -/
import Derived.Test.YtkjodleggfacbaaDoorTreeFitsP
namespace Go.Proofs.YtkjodleggfacbaaDoor.Wtr
open Go Go.RowKit Go.Proofs.YtkjodleggfacbaaDoor.Kb

theorem eq_rule0 (w : World) : (binOp .eql 70 (.agg #[.bool false, .bool false, .bool false, .bool false, .bool false, .bool false]) (.agg #[.bool false, .bool false, .bool false, .bool false, .bool false, .bool false])).run Tryd.prog w = .ok (.bool true) w := by kernel_rfl
set_option maxRecDepth 100000 in
set_option maxHeartbeats 2000000 in
theorem pfits_no (D : Nat) (A : Option Addr) (l : List Ptr.Nd) (c i : Nat) (w : World) (hD0 : w.cell? ⟨D, 0, none⟩ = some (.slice A l.length c))
    (hr : RdN w A l) (hi : i < l.length) (hE : TEnv w) (hk : Ptr.kin l i = 0 ∨ Ptr.kin l i = 1 ∨ 7 ≤ Ptr.kin l i) (h255 : Ptr.kin l i ≤ 255) :
    Calls Tryd.prog 39 #[.pointer (some ⟨D, 0, none⟩), .int .i64 i] w fun e w' => e = .returned (.bool false) ∧ Below w.heap.size w w' := by
  obtain ⟨b, off, rfl, q0, q1, q2, q3⟩ := hr.at_ hi
  have i0 : (0 : Int) ≤ (i : Int) := by omega
  have i1 : (i : Int) < (l.length : Int) := by omega
  simp only at q0 q1 q2 q3
  have hEq := eq_rule0
  rcases hk with hk | hk | hk
  · rw [hk] at q0
    have r0 : ∀ o, (w.alloc o).cell? ⟨0, 0, none⟩ = some (.bool false) := fun o => rule_cell hE.2.1 0 0 rfl _ (box_below w o)
    have r1 : ∀ o, (w.alloc o).cell? ⟨0, 1, none⟩ = some (.bool false) := fun o => rule_cell hE.2.1 1 0 rfl _ (box_below w o)
    have r2 : ∀ o, (w.alloc o).cell? ⟨0, 2, none⟩ = some (.bool false) := fun o => rule_cell hE.2.1 2 0 rfl _ (box_below w o)
    have r3 : ∀ o, (w.alloc o).cell? ⟨0, 3, none⟩ = some (.bool false) := fun o => rule_cell hE.2.1 3 0 rfl _ (box_below w o)
    have r4 : ∀ o, (w.alloc o).cell? ⟨0, 4, none⟩ = some (.bool false) := fun o => rule_cell hE.2.1 4 0 rfl _ (box_below w o)
    have r5 : ∀ o, (w.alloc o).cell? ⟨0, 5, none⟩ = some (.bool false) := fun o => rule_cell hE.2.1 5 0 rfl _ (box_below w o)
    clear hr hE hk
    go_enter Tryd.func39, Tryd.ntmps39
    go_wp2
    go_ret
    exact ⟨rfl, box_below _ _⟩
  · rw [hk] at q0
    have r0 : ∀ o, (w.alloc o).cell? ⟨0, 6, none⟩ = some (.bool false) := fun o => rule_cell hE.2.1 6 0 rfl _ (box_below w o)
    have r1 : ∀ o, (w.alloc o).cell? ⟨0, 7, none⟩ = some (.bool false) := fun o => rule_cell hE.2.1 7 0 rfl _ (box_below w o)
    have r2 : ∀ o, (w.alloc o).cell? ⟨0, 8, none⟩ = some (.bool false) := fun o => rule_cell hE.2.1 8 0 rfl _ (box_below w o)
    have r3 : ∀ o, (w.alloc o).cell? ⟨0, 9, none⟩ = some (.bool false) := fun o => rule_cell hE.2.1 9 0 rfl _ (box_below w o)
    have r4 : ∀ o, (w.alloc o).cell? ⟨0, 10, none⟩ = some (.bool false) := fun o => rule_cell hE.2.1 10 0 rfl _ (box_below w o)
    have r5 : ∀ o, (w.alloc o).cell? ⟨0, 11, none⟩ = some (.bool false) := fun o => rule_cell hE.2.1 11 0 rfl _ (box_below w o)
    clear hr hE hk
    go_enter Tryd.func39, Tryd.ntmps39
    go_wp2
    go_ret
    exact ⟨rfl, box_below _ _⟩
  · have k7 : (7 : Int) ≤ ((Ptr.kin l i : Nat) : Int) := by omega
    have k8 : ((Ptr.kin l i : Nat) : Int) ≤ 255 := by omega
    generalize Ptr.kin l i = K at q0 k7 k8
    clear hr hE hk h255
    go_enter Tryd.func39, Tryd.ntmps39
    go_wp2
    go_ret
    exact ⟨rfl, box_below _ _⟩
end Go.Proofs.YtkjodleggfacbaaDoor.Wtr
