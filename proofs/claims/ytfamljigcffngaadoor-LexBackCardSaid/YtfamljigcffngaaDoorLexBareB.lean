/- The walk over bare. -/
import Derived.Test.YtfamljigcffngaaDoorLexBare
namespace Go.Proofs.YtfamljigcffngaaDoor.Wlx
open Go Go.RowKit Go.Proofs.YtfamljigcffngaaDoor.Wch

theorem ownT_set {w : World} {base size n g cap : Nat} {e : TypeId} {xs : List Value} (h : w.ownsRow base e size (.slice (some ⟨g, 0, none⟩) n cap) n xs) (i : Nat) (u : Value) :
    (w.setCell ⟨g, i, none⟩ u).ownsRow base e size (.slice (some ⟨g, 0, none⟩) n cap) n (xs.set i u) := by
  refine ⟨by rw [List.length_set]; exact h.1, ?_⟩
  rcases h.2 with ⟨h0, _⟩ | ⟨g', cap', cur, hv, hb, hh, h1, h2, h3, h4⟩
  · cases h0
  · injection hv with hA _ hc
    injection hA with hA
    injection hA with hA
    subst hA hc
    refine .inr ⟨g, cap, cur.setIfInBounds i u, rfl, hb, Joins.block_setCell hh u, h1, h2, by rw [Array.size_setIfInBounds]; exact h3, ?_⟩
    rw [Array.toList_setIfInBounds, List.take_set, h4]
/-- a token without its place -/
def bareT (x : Plx.Tok × Nat) : Plx.Tok × Nat := (x.1, 0)
theorem toks_set (a : List (Plx.Tok × Nat)) (x : Plx.Tok × Nat) (b : List (Plx.Tok × Nat)) (i : Nat) (hi : i = a.length * 4 + 3) : (toksC (a ++ x :: b)).set i (.int .i64 0) = toksC (a ++ bareT x :: b) := by
  subst hi
  rw [toksC_append, toksC_append, List.set_append_right _ _ (by rw [toksC_length]; omega), toksC_length, Nat.add_sub_cancel_left]
  rfl
set_option maxRecDepth 100000 in
set_option maxHeartbeats 1000000 in
theorem bare_any (b off : Nat) (l : List (Plx.Tok × Nat)) (c : Nat) (w : World) (hr : RdT w (some ⟨b, off, none⟩) l) (hne : 0 < l.length) (hl : l.length ≤ 100000000) :
    Calls Tryd.prog 12 #[.slice (some ⟨b, off, none⟩) l.length c] w fun e w' => ∃ g d, e = .returned (.slice (some ⟨g, 0, none⟩) l.length d) ∧ RdT w' (some ⟨g, 0, none⟩) (l.map bareT) ∧ Below w.heap.size w w' := by
  have HR := Kept.mk hr
  clear hr
  go_enter Tryd.func12, Tryd.ntmps12
  go_wp2_with (fail)
  refine (copyT_any b off l c _ HR.out hl).mono ?_; rintro e w1 ⟨v, rfl, hown, hb1⟩
  obtain ⟨g, d, rfl, _, hcap⟩ := hown.form hne
  have hg : w.heap.size ≤ g := by
    rcases hown.2 with ⟨h0, _⟩ | ⟨g', cap', cur, hv, hb, _⟩
    · cases h0
    · cases hv
      exact hb
  have O1 := Kept.mk hown
  clear hown
  go_wp2
  go_loopw [4] (fun i wx => ∃ k : Nat, k ≤ l.length ∧ i = .int .i64 k ∧ wx.ownsRow w.heap.size 24 4 (.slice (some ⟨g, 0, none⟩) l.length d) l.length (toksC ((l.take k).map bareT ++ l.drop k)) ∧ Below w.heap.size w wx) (fun i _ => l.length - (intOf i).toNat)
  case atStart => exact ⟨0, by omega, rfl, by simpa using O1.out, hb1⟩
  case round =>
    obtain ⟨k, hk, rfl, ho, hw⟩ := hrel
    by_cases hlt : k < l.length
    · have hd : l.drop k = l[k] :: l.drop (k + 1) := List.drop_eq_getElem_cons hlt
      have hs := toks_set ((l.take k).map bareT) l[k] (l.drop (k + 1)) (k * 4 + 3) (by rw [List.length_map, List.length_take, Nat.min_eq_left (by omega)])
      have ho2 := ownT_set ho (k * 4 + 3) (.int .i64 0)
      rw [hd, hs] at ho2
      have hl2 : (l.take (k + 1)).map bareT ++ l.drop (k + 1) = (l.take k).map bareT ++ bareT l[k] :: l.drop (k + 1) := by
        rw [List.take_add_one, List.getElem?_eq_getElem hlt, List.map_append, List.append_assoc]
        rfl
      rw [← hl2] at ho2
      have hR := rdt_of_own ho (by intro e; have := congrArg List.length e; simp at this; omega)
      obtain ⟨_, _, hA, hc⟩ := hR
      cases hA
      obtain ⟨_, _, _, c3⟩ := hc k l[k] (by rw [List.getElem?_append_right (by simp; omega)]; simp [List.length_take, Nat.min_eq_left (Nat.le_of_lt hlt), hlt])
      rw [Nat.zero_add] at c3
      have fz : wr.frozen? ⟨g, k * 4 + 3, none⟩ = false := by
        rcases ho.2 with ⟨h0, _⟩ | ⟨g', cap', cur, hv, _, hh, _⟩
        · cases h0
        · injection hv with hA _ _
          injection hA with hA
          injection hA with hA
          subst hA
          exact Joins.unfrozen_of_block hh _
      have OO := Kept.mk ho2
      have BB : Kept (Below w.heap.size w (wr.setCell ⟨g, k * 4 + 3, none⟩ (.int .i64 0))) := ⟨hw.setCell (by exact hg) _⟩
      have i0 : (0 : Int) ≤ (k : Int) := by omega
      have i1 : (k : Int) < (l.length : Int) := by omega
      clear hc ho ho2 hd hs hl2 hw
      go_wp2
      go_roundw
      case rel => exact ⟨k + 1, by omega, by go_num, OO.out, BB.out⟩
      case measure => simp [intOf]; omega
    · obtain rfl : k = l.length := by omega
      rw [List.take_length, List.drop_length, List.append_nil] at ho
      have hR := Kept.mk (rdt_of_own ho)
      clear ho
      go_wp2
      go_ret
      exact ⟨g, d, rfl, hR.out, hw⟩
end Go.Proofs.YtfamljigcffngaaDoor.Wlx
