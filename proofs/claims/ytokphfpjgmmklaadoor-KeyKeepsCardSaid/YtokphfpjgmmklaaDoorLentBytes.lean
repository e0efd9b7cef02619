/- The walks over the kit's LentBytes, KeptBytes, OverBytes. -/
import Derived.Test.YtokphfpjgmmklaaDoorFlatMarkBytes
import Derived.Test.YtokphfpjgmmklaaDoorKeyWalksB
import Derived.Deep.DeepAppendRoom
import Derived.OwnWalk
import Derived.Maps.AppendAt
import Derived.Laws.AppendOwnNone
namespace Go.Proofs.YtokphfpjgmmklaaDoor.Wk
open Go Go.RowKit Go.Proofs.YtokphfpjgmmklaaDoor.Kb Go.Proofs.YtokphfpjgmmklaaDoor.Flt

def mkBs (k i : Nat) : List Value := [.int .u8 (mkB k i)]
theorem mkBs_len (k i : Nat) : (mkBs k i).length = 1 := rfl
/-- bytes that are lent: the bytes, twelve marks behind them -/
def Lent (w : World) (base g : Nat) (l : List UInt8) : Prop := w.ownsRow base 5 1 (.slice (some ⟨g, 0, none⟩) (l.length + 12) (l.length + 12)) (l.length + 12) (bc l ++ marks mkBs 1 12)
theorem rd_lent {w : World} {base g : Nat} {l : List UInt8} (h : w.ownsRow base 5 1 (.slice (some ⟨g, 0, none⟩) (l.length + 12) (l.length + 12)) (l.length + 12) (bc l ++ marks mkBs 1 12)) : Rd w (some ⟨g, 0, none⟩) l := by
  intro _
  refine ⟨g, 0, rfl, fun j x hx => ?_⟩
  rw [Nat.zero_add]
  refine own_at h j _ ?_
  have hj : j < l.length := (List.getElem?_eq_some_iff.1 hx).1
  rw [List.getElem?_append_left (by rw [bc_length]; exact hj)]
  exact bc_cell l j x hx
set_option maxRecDepth 100000 in
/-- 'm...' behind a row of the call's own that has room -/
theorem wpList_append_room_rd {ops : Array Oper} {rest : List Oper} {o : Oper} {a : Act} {Q : Exit → Act → World → Prop} {w : World} (hgd : o.guard = none) (s x : Operand)
    (ho : o.op = .call { callee := .builtin .append, args := #[s, x], argTypes := #[22, 22] }) (base g n cap : Nat) (xs : List Value) (hs : a.eval s = .slice (some ⟨g, 0, none⟩) n cap)
    (hown : w.ownsRow base 5 1 (.slice (some ⟨g, 0, none⟩) n cap) n xs) (A : Option Addr) (c : Nat) (m : List UInt8) (hx : a.eval x = .slice A m.length c) (hr : Rd w A m) (hc : A = none → c = 0) (hroom : n + m.length ≤ cap)
    (h : ∀ w', w'.ownsRow base 5 1 (.slice (some ⟨g, 0, none⟩) (n + m.length) cap) (n + m.length) (xs ++ bc m) → w.grownBy w' (some g) → wpList Tryd.prog ops Q rest (a.put o.dst (.slice (some ⟨g, 0, none⟩) (n + m.length) cap)) w') : wpList Tryd.prog ops Q (o :: rest) a w := by
  obtain ⟨i0, hi, hz0, hz1, hz2⟩ := info_parts infoB
  cases A with
  | none =>
    have hm : m = [] := by
      apply Classical.byContradiction
      intro hne
      obtain ⟨b, off, hA, _⟩ := hr hne
      cases hA
    subst hm
    rw [hc rfl] at hx
    have h' := h w (by simpa [bc] using hown) (World.grownBy.refl _ _)
    simp only [List.length_nil, Nat.add_zero] at h'
    exact wpList_append_own_none hgd s x _ ho base _ i0 1 Tryd.underlying22 hi _ _ _ hs hown hx h'
  | some ad =>
    have c2 : ∀ j u, (bc m)[j]? = some u → w.cell? (ad.add j) = some u := by
      intro j u hu
      obtain ⟨y, hy, rfl⟩ : ∃ y, m[j]? = some y ∧ Value.int .u8 (y.toNat : Int) = u := by
        simp only [bc, List.getElem?_map, Option.map_eq_some_iff] at hu
        exact hu
      obtain ⟨b, off, hA, hcell⟩ := hr (by intro e; subst e; simp at hy)
      injection hA with hA
      subst hA
      rw [add_lit]
      exact hcell j y hy
    exact wpList_append_own_spare _ hgd s x _ ho base _ i0 1 Tryd.underlying22 hi hz1 g n cap xs hs hown ad m.length c (bc m) hx (by simp [bc_length]) c2 (bc_oneCell m) hroom h
theorem grown_low {w w1 : World} {B g : Nat} {wx : World} (h : Below B w wx) (hg : wx.grownBy w1 (some g)) (hB : B ≤ g) (hs : B ≤ wx.heap.size) : Below B w w1 :=
  Below.grown h hg hs (fun b hb => by cases hb; exact hB)
set_option maxRecDepth 100000 in
set_option maxHeartbeats 1000000 in
theorem lentBytes_any (A : Option Addr) (l : List UInt8) (c : Nat) (w : World) (hr : Rd w A l) (hc : A = none → c = 0) (hl : l.length ≤ 20000) :
    Calls Tryd.prog 22 #[.slice A l.length c] w fun e w' => e = .returned (.slice (some ⟨w.heap.size, 0, none⟩) l.length (l.length + 12)) ∧ w'.ownsRow w.heap.size 5 1 (.slice (some ⟨w.heap.size, 0, none⟩) (l.length + 12) (l.length + 12)) (l.length + 12) (bc l ++ marks mkBs 1 12) ∧ Below w.heap.size w w' := by
  obtain ⟨i0', hi, hz0, hz1, hz2⟩ := info_parts infoB
  have HR := Kept.mk hr
  have HC := Kept.mk hc
  clear hr hc
  go_enter Tryd.func22, Tryd.ntmps22
  go_wp2_with (first | (at_make; refine wpList_make_own _ rfl _ _ 22 rfl w.heap.size 5 i0' (.int .u8 0) 1 Tryd.underlying22 hi hz0 hz1 .i64 .i64 _ (l.length + 12) (by rfl) (by rfl) (by omega) (by rw [hz2]; omega) (by unfold maxLen; omega) (Nat.le_refl _) ?_; intro w1 hown1 hgrow1; have hb1 := below_of_grown hgrow1; have R1 := Kept.mk (HR.out.below hb1); have B1 := Kept.mk hb1; have O1 := Kept.mk hown1; have s1 := hb1.size; clear hb1 hown1 hgrow1) | (at_builtin; refine wpList_append_room_rd rfl (.tmp 9) (.tmp 10) rfl w.heap.size w.heap.size 0 (l.length + 12) [] (by rfl) O1.out A c l (by rfl) R1.out HC.out (by omega) ?_; intro w2 hown2 hgrow2; rw [Nat.zero_add, List.nil_append] at hown2; have hb2 := grown_low B1.out hgrow2 (Nat.le_refl _) s1; have O2 := Kept.mk hown2; have B2 := Kept.mk hb2; have s2 := hb2.size; clear hb2 hown2 hgrow2))
  go_loopw [3, 4] (fun v i wx => ∃ k : Nat, k ≤ 12 ∧ i = .int .i64 k ∧ v = .slice (some ⟨w.heap.size, 0, none⟩) (l.length + k) (l.length + 12) ∧ wx.ownsRow w.heap.size 5 1 (.slice (some ⟨w.heap.size, 0, none⟩) (l.length + k) (l.length + 12)) (l.length + k) (bc l ++ marks mkBs 1 k) ∧ Below w.heap.size w wx) (fun _ i _ => 12 - (intOf i).toNat)
  case atStart => exact ⟨0, by omega, rfl, by simp, by simpa [marks_zero] using O2.out, B2.out⟩
  case round =>
    obtain ⟨k, hk, rfl, rfl, hO, hB⟩ := hrel
    have O3 := Kept.mk hO
    have B3 := Kept.mk hB
    have s3 := hB.size
    clear hO hB
    by_cases hlt : k < 12
    · have i0 : (0 : Int) ≤ (k : Int) := by omega
      have i1 : (k : Int) < 12 := by omega
      go_wp2_with (fail)
      refine (markB_same 1 k _ (by omega) (by omega) (by omega) (by omega)).mono ?_; rintro e w4 ⟨rfl, rfl⟩
      go_wp2_with (at_builtin; refine wpList_append_own_spare _ rfl (.tmp 16) (.tmp 19) 22 rfl w.heap.size 5 i0' 1 Tryd.underlying22 hi hz1 w.heap.size (l.length + k) (l.length + 12) _ (by rfl) (O3.out.alloc _) ⟨wr.heap.size, 0, none⟩ 1 1 [.int .u8 (mkB 1 k)] (by rfl) (by rfl) (World.news_of_block (heap_alloc_new _ _)) (by intro u hu; simp at hu; subst hu; rfl) (by omega) ?_; intro w5 hown5 hgrow5; have hb5 := grown_low (B3.out.alloc s3 _) hgrow5 (Nat.le_refl _) (by simp; omega); have O5 := Kept.mk hown5; have B5 := Kept.mk hb5; clear hown5 hgrow5 hb5)
      go_roundw
      case rel => exact ⟨k + 1, by omega, by go_num, rfl, by rw [marks_succ, ← List.append_assoc]; exact O5.out, B5.out⟩
      case measure => simp [intOf]; omega
    · obtain rfl : k = 12 := by omega
      have i0 : (0 : Int) ≤ (l.length : Int) := by omega
      go_wp2
      go_ret
      exact ⟨rfl, O3.out, B3.out⟩
theorem lent_mark {w : World} {base g : Nat} {l : List UInt8} (h : w.ownsRow base 5 1 (.slice (some ⟨g, 0, none⟩) (l.length + 12) (l.length + 12)) (l.length + 12) (bc l ++ marks mkBs 1 12)) (k : Nat) (hk : k < 12) : w.cell? ⟨g, l.length + k, none⟩ = some (.int .u8 (mkB 1 k)) := by
  refine own_at h _ _ ?_
  rw [List.getElem?_append_right (by rw [bc_length]; omega), bc_length, Nat.add_sub_cancel_left]
  have := marks_get mkBs_len (k := 1) (i := k) (n := 12) hk (j := 0) (u := .int .u8 (mkB 1 k)) rfl []
  simpa using this
set_option maxRecDepth 100000 in
set_option maxHeartbeats 1000000 in
theorem keptBytes_any {base : Nat} (g : Nat) (A : Option Addr) (l : List UInt8) (c : Nat) (w : World) (hO : w.ownsRow base 5 1 (.slice (some ⟨g, 0, none⟩) (l.length + 12) (l.length + 12)) (l.length + 12) (bc l ++ marks mkBs 1 12)) (hr : Rd w A l) (hl : l.length ≤ 20000) :
    Calls Tryd.prog 23 #[.slice (some ⟨g, 0, none⟩) l.length (l.length + 12), .slice A l.length c] w fun e w' => e = .returned (.bool true) ∧ Below w.heap.size w w' := by
  have RG := Kept.mk (rd_lent hO)
  have HM := Kept.mk (lent_mark hO)
  have HR := Kept.mk hr
  clear hO hr
  have i0 : (0 : Int) ≤ (l.length : Int) := by omega
  go_enter Tryd.func23, Tryd.ntmps23
  go_wp2
  go_loopw [6] (fun i wx => ∃ k : Nat, k ≤ l.length + 12 ∧ i = .int .i64 k ∧ Below w.heap.size w wx) (fun i _ => l.length + 12 - (intOf i).toNat)
  case atStart => exact ⟨0, by omega, rfl, Below.refl _ _⟩
  case round =>
    obtain ⟨k, hk, rfl, hB⟩ := hrel
    have B3 := Kept.mk hB
    have j0 : (0 : Int) ≤ (k : Int) := by omega
    by_cases hlt : k < l.length
    · have hc1 := rd_cell (RG.out.below hB) hlt
      obtain ⟨b, off, rfl, hc2⟩ := (HR.out.below hB).at_ hlt
      rw [Nat.zero_add] at hc1
      have j1 : (k : Int) < (l.length : Int) := by omega
      have j2 : (k : Int) < (l.length : Int) + 12 := by omega
      have e1 : decide (l.length ≤ k) = false := by simp; omega
      generalize hx : l.getD k 0 = x at hc1 hc2
      clear hx hB
      go_wp2
      go_quiet (fail)
      go_wp2
      go_roundw
      case rel => exact ⟨k + 1, by omega, by go_num, below_drewN B3.out _⟩
      case measure => simp [intOf]; omega
    · by_cases hlt2 : k < l.length + 12
      · obtain ⟨m, hm⟩ : ∃ m, k = l.length + m := ⟨k - l.length, by omega⟩
        have hm12 : m < 12 := by omega
        have hc1 := cel_keep hB (HM.out m hm12)
        rw [← hm] at hc1
        have j2 : (k : Int) < (l.length : Int) + 12 := by omega
        have j3 : (k : Int) - (l.length : Int) = (m : Int) := by omega
        have e1 : decide (l.length ≤ k) = true := by simp; omega
        have e2 : decide (k < l.length) = false := by simp; omega
        clear hB hm
        go_wp2
        go_quiet ((go_at_call 31; exact Calls.quiet_of_same (markB_quiet 1 m _ (by omega) (by omega) (by omega) (by omega))))
        go_wp2
        go_roundw
        case rel => exact ⟨k + 1, by omega, by go_num, below_drewN B3.out _⟩
        case measure => simp [intOf]; omega
      · obtain rfl : k = l.length + 12 := by omega
        clear hB
        go_wp2
        go_ret
        exact ⟨rfl, B3.out⟩
theorem grown_set {w w1 : World} {g i : Nat} {u : Value} (h : w.grownBy w1 (some g)) : w.grownBy (w1.setCell ⟨g, i, none⟩ u) (some g) :=
  ⟨h.os, h.tape, h.output, by simpa using h.size, fun k hk hne => (Below.heap_setCell _ _ _ _ (fun e => hne (congrArg some e))).trans (h.block k hk hne)⟩
set_option maxRecDepth 100000 in
set_option maxHeartbeats 1000000 in
theorem overBytes_any (g : Nat) (l : List UInt8) (base : Nat) (w : World) (hO : w.ownsRow base 5 1 (.slice (some ⟨g, 0, none⟩) (l.length + 12) (l.length + 12)) (l.length + 12) (bc l ++ marks mkBs 1 12)) (hl : l.length ≤ 20000) :
    Calls Tryd.prog 24 #[.slice (some ⟨g, 0, none⟩) l.length (l.length + 12)] w fun e w' => e = .returned (.tuple #[]) ∧ w.grownBy w' (some g) := by
  have HO := Kept.mk hO
  clear hO
  have i0 : (0 : Int) ≤ (l.length : Int) := by omega
  go_enter Tryd.func24, Tryd.ntmps24
  go_wp2
  go_loopw [3] (fun i wx => ∃ (k : Nat) (xs : List Value), k ≤ l.length + 12 ∧ i = .int .i64 k ∧ wx.ownsRow base 5 1 (.slice (some ⟨g, 0, none⟩) (l.length + 12) (l.length + 12)) (l.length + 12) xs ∧ w.grownBy wx (some g)) (fun i _ => l.length + 12 - (intOf i).toNat)
  case atStart => exact ⟨0, _, by omega, rfl, HO.out, World.grownBy.refl _ _⟩
  case round =>
    obtain ⟨k, xs, hk, rfl, hO, hG⟩ := hrel
    have O3 := Kept.mk hO
    have G3 := Kept.mk hG
    have j0 : (0 : Int) ≤ (k : Int) := by omega
    by_cases hlt : k < l.length + 12
    · have hx := hO.1
      obtain ⟨u, hu⟩ : ∃ u, xs[k]? = some u := ⟨_, List.getElem?_eq_getElem (by omega)⟩
      have c1 := own_at hO k u hu
      have f1 : wr.frozen? ⟨g, k, none⟩ = false := own_unfrozen hO k
      have j2 : (k : Int) < (l.length : Int) + 12 := by omega
      clear hO hG hu hx
      go_wp2_with (fail)
      refine (markB_same 2 k _ (by omega) (by omega) (by omega) (by omega)).mono ?_; rintro e w4 ⟨rfl, rfl⟩
      go_wp2
      go_roundw
      case rel => exact ⟨k + 1, _, by omega, by go_num, own_cell O3.out k _, grown_set G3.out⟩
      case measure => simp [intOf]; omega
    · obtain rfl : k = l.length + 12 := by omega
      clear hO hG
      go_wp2
      go_end0
      exact ⟨rfl, G3.out⟩
end Go.Proofs.YtokphfpjgmmklaaDoor.Wk
