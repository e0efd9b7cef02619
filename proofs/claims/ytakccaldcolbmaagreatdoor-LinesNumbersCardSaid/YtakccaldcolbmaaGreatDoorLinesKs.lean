/- The walks over the document's kind, and the kit's KeptShowns (chapter 31). -/
import Derived.Test.YtakccaldcolbmaaGreatDoorLentShowns
import Derived.Test.YtakccaldcolbmaaGreatDoorBeh
namespace Go.Proofs.YtakccaldcolbmaaGreatDoor.Wln
open Go Go.RowKit Go.Proofs.YtakccaldcolbmaaGreatDoor.Kb Go.Proofs.YtakccaldcolbmaaGreatDoor.Flt

set_option maxHeartbeats 1000000 in
theorem refkind_any (nd : Nat) (w : World) : Calls Tryz.prog 21 #[.int .u8 (nd : Int)] w fun e w' => e = .returned (.string ⟨(kindL nd).toArray⟩) ∧ w = w' := by
  by_cases h : nd = 1 ∨ nd = 2 ∨ nd = 3 ∨ nd = 4 ∨ nd = 5 ∨ nd = 6
  · rcases h with rfl | rfl | rfl | rfl | rfl | rfl
    all_goals
      rw [show ((_ : Nat) : Int) = _ from rfl]
      go_enter Tryz.func21, Tryz.ntmps21
      go_wp2
      go_ret
      exact ⟨rfl, rfl⟩
  · have hk : kindL nd = [110, 111, 100, 101] := by
      unfold kindL
      split
      all_goals first
        | (exfalso; omega)
        | rfl
    rw [hk]
    have g1 : ((nd : Int) == 1) = false := by simp; omega
    have g2 : ((nd : Int) == 2) = false := by simp; omega
    have g3 : ((nd : Int) == 3) = false := by simp; omega
    have g4 : ((nd : Int) == 4) = false := by simp; omega
    have g5 : ((nd : Int) == 5) = false := by simp; omega
    have g6 : ((nd : Int) == 6) = false := by simp; omega
    go_enter Tryz.func21, Tryz.ntmps21
    go_wp2
    go_ret
    exact ⟨rfl, rfl⟩
theorem rdi_left {w : World} {A : Option Addr} {l m : List It} (h : RdI w A (l ++ m)) : RdI w A l := fun i x hx => h i x (by rw [List.getElem?_append_left (List.getElem?_eq_some_iff.1 hx).1]; exact hx)
theorem rdi_own {w : World} {base n c : Nat} {A : Option Addr} {l : List It} (h : w.ownsRow base 26 5 (.slice A n c) n (itsC l)) (hn : l.length = n) : RdI w A l := by
  intro i x hx
  have hi : i < l.length := (List.getElem?_eq_some_iff.1 hx).1
  rcases h.2 with ⟨e, h0⟩ | ⟨g, cap, cur, e, _⟩
  · omega
  · cases e
    obtain ⟨a, b, c, d, e⟩ := itsC_at l i x hx
    have hadd : ∀ j, (⟨g, 0, none⟩ : Addr).add j = ⟨g, j, none⟩ := fun j => by unfold Addr.add; split <;> simp_all
    have h0 := h.cells (g := g) rfl _ _ a
    have h1 := h.cells (g := g) rfl _ _ b
    have h2 := h.cells (g := g) rfl _ _ c
    have h3 := h.cells (g := g) rfl _ _ d
    have h4 := h.cells (g := g) rfl _ _ e
    rw [hadd] at h0 h1 h2 h3 h4
    exact ⟨g, 0, rfl, by rw [Nat.zero_add]; exact h0, by rw [Nat.zero_add]; exact h1, by rw [Nat.zero_add]; exact h2, by rw [Nat.zero_add]; exact h3, by rw [Nat.zero_add]; exact h4⟩
set_option maxRecDepth 100000 in
set_option maxHeartbeats 4000000 in
theorem keptShowns_any (g : Nat) (A : Option Addr) (l : List It) (c : Nat) (w : World) (hO : RdI w (some ⟨g, 0, none⟩) (l ++ marksI 1 12)) (hr : RdI w A l) (hl : l.length ≤ 200000) :
    Calls Tryz.prog 8 #[.slice (some ⟨g, 0, none⟩) l.length (l.length + 12), .slice A l.length c] w fun e w' => e = .returned (.bool true) ∧ Below w.heap.size w w' := by
  have HO := Kept.mk hO
  have HR := Kept.mk hr
  clear hO hr
  have i0 : (0 : Int) ≤ (l.length : Int) := by omega
  go_enter Tryz.func8, Tryz.ntmps8
  go_wp2
  go_loopw [6] (fun i wx => ∃ k : Nat, k ≤ l.length + 12 ∧ i = .int .i64 k ∧ Below w.heap.size w wx) (fun i _ => l.length + 12 - (intOf i).toNat)
  case atStart => exact ⟨0, by omega, rfl, Below.refl _ _⟩
  case round =>
    obtain ⟨k, hk, rfl, hB⟩ := hrel
    have B3 := Kept.mk hB
    have j0 : (0 : Int) ≤ (k : Int) := by omega
    by_cases hlt12 : k < l.length + 12
    · have j2 : (k : Int) < (l.length : Int) + 12 := by omega
      by_cases hlt : k < l.length
      · have j1 : (k : Int) < (l.length : Int) := by omega
        have e1 : decide (l.length ≤ k) = false := by simp; omega
        obtain ⟨x, hx⟩ : ∃ x, l[k]? = some x := ⟨_, List.getElem?_eq_getElem hlt⟩
        have hget : (l ++ marksI 1 12)[k]? = some x := by rw [List.getElem?_append_left hlt]; exact hx
        obtain ⟨a, b, nm, tx, n⟩ := x
        obtain ⟨go, oo, eo, c0, c1, c2, c3, c4⟩ := (HO.out.below hB) k _ hget
        cases eo
        obtain ⟨gb, off, rfl, d0, d1, d2, d3, d4⟩ := (HR.out.below hB) k _ hx
        simp only [Nat.zero_add] at c0 c1 c2 c3 c4 d0 d1 d2 d3 d4
        have x0 := beh_cell c0; have x1 := beh_cell c1; have x2 := beh_cell c2; have x3 := beh_cell c3; have x4 := beh_cell c4
        have y0 := beh_cell d0; have y1 := beh_cell d1; have y2 := beh_cell d2; have y3 := beh_cell d3; have y4 := beh_cell d4
        have hE := eql_item (a : Int) (b : Int) ⟨nm.toArray⟩ ⟨tx.toArray⟩ n
        clear c0 c1 c2 c3 c4 d0 d1 d2 d3 d4 hB hget hx
        go_wp2
        refine wp_region_beh (by kernel_rfl) (by kernel_rfl) ?_
        repeat
          (refine Qw_step (fun K hK => ?_)
           go_simp
           refine hK _ ?_; clear hK K)
        refine Qw_nil ?_
        rintro _ ⟨⟨w5, hb5⟩, rfl⟩
        go_wp2
        go_roundw
        case rel => exact ⟨k + 1, by omega, by go_num, B3.out.trans (hb5.mono B3.out.size)⟩
        case measure => simp [intOf]; omega
      · have e1 : decide (l.length ≤ k) = true := by simp; omega
        have e2 : decide (k < l.length) = false := by simp; omega
        obtain ⟨m, hm⟩ : ∃ m, k = l.length + m := ⟨k - l.length, by omega⟩
        have j3 : (k : Int) - (l.length : Int) = (m : Int) := by omega
        have hget : (l ++ marksI 1 12)[k]? = some (mkIt 1 m) := by
          rw [List.getElem?_append_right (by omega), hm, Nat.add_sub_cancel_left]
          unfold marksI
          rw [List.getElem?_map, List.getElem?_range (by omega)]
          rfl
        obtain ⟨go, oo, eo, c0, c1, c2, c3, c4⟩ := (HO.out.below hB) k _ hget
        cases eo
        simp only [Nat.zero_add] at c0 c1 c2 c3 c4
        have x0 := beh_cell (v := .int .u8 0) c0; have x1 := beh_cell (v := .int .u8 0) c1; have x2 := beh_cell (v := .string ⟨#[]⟩) c2; have x3 := beh_cell (v := .string ⟨#[]⟩) c3; have x4 := beh_cell (v := .int .i64 (mkI 1 m)) c4
        have hE : ∀ w, (binOp .eql 26 (.agg #[.int .u8 0, .int .u8 0, .string ⟨#[]⟩, .string ⟨#[]⟩, .int .i64 (mkI 1 m)]) (.agg #[.int .u8 0, .int .u8 0, .string ⟨#[]⟩, .string ⟨#[]⟩, .int .i64 (mkI 1 m)])).run Tryz.prog w = .ok (.bool true) w := eql_item 0 0 ⟨#[]⟩ ⟨#[]⟩ (mkI 1 m)
        have hwr : IntKind.i64.wrap (m : Int) = (m : Int) := by rw [IntKind.wrap_i64]; omega
        have cM := Kept.mk (fun (x : Beh wr) => markShown_any 1 m x.fin (by omega) (by omega) (by omega) (by omega))
        clear c0 c1 c2 c3 c4 hB hget hm
        go_wp2
        refine wp_region_beh (by kernel_rfl) (by kernel_rfl) ?_
        repeat
          (refine Qw_step (fun K hK => ?_)
           go_simp
           first
             | (refine hK _ ?_; clear hK K)
             | (apply Exists.intro
                refine ⟨fun _ => ?_, hK _ ?_⟩
                (go_at_call 19; exact Calls.beh_of (cM.out _))
                clear hK K))
        refine Qw_nil ?_
        rintro _ ⟨⟨w5, hb5⟩, rfl⟩
        go_wp2
        go_roundw
        case rel => exact ⟨k + 1, by omega, by go_num, B3.out.trans (hb5.mono B3.out.size)⟩
        case measure => simp [intOf]; omega
    · obtain rfl : k = l.length + 12 := by omega
      clear hB
      go_wp2
      go_ret
      exact ⟨rfl, B3.out⟩
end Go.Proofs.YtakccaldcolbmaaGreatDoor.Wln
