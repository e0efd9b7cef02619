/- The walks over the kit's markShown, LentShowns, KeptShowns (chapter 31). -/
import Derived.Test.YtakccaldcolbmaaGreatDoorFlatMark
import Derived.Test.YtakccaldcolbmaaGreatDoorLinesAw
import Derived.Lib.SmallJoins
import Derived.WalkSmall
import Derived.Laws.StructEq
import Derived.Deep.DeepAppendRoom
import Derived.OwnWalk
import Derived.Maps.AppendAt
import Derived.Laws.AppendOwnNone
namespace Go.Proofs.YtakccaldcolbmaaGreatDoor.Wln
open Go Go.RowKit Go.Proofs.YtakccaldcolbmaaGreatDoor.Kb Go.Proofs.YtakccaldcolbmaaGreatDoor.Flt

theorem markShown_any (k i : Int) (w : World) (hk0 : 0 ≤ k) (hk : k ≤ 1000) (hi0 : 0 ≤ i) (hi : i ≤ 1000000) :
    Calls Tryz.prog 19 #[.int .i64 k, .int .i64 i] w fun e w' => e = .returned (.agg #[.int .u8 0, .int .u8 0, .string ⟨#[]⟩, .string ⟨#[]⟩, .int .i64 (mkI k i)]) ∧ Below w.heap.size w w' := by
  go_enter Tryz.func19, Tryz.ntmps19
  go_wp2_with (fail)
  refine (mark_any _ _ _ hk0 hk hi0 hi).mono ?_; rintro e w' ⟨rfl, rfl⟩
  go_wp2_with (fail)
  refine bodyPost_ret (v := .agg #[.int .u8 0, .int .u8 0, .string ⟨#[]⟩, .string ⟨#[]⟩, .int .i64 (mkI k i)]) (by simp [results, Tryz.results19, go_sem]) rfl ⟨rfl, ?_⟩
  exact (Below.refl _ _).alloc (Nat.le_refl _) _
/-- two items are alike -/
theorem eql_item (k n : Int) (s t : ByteArray) (p : Int) (w : World) : (binOp .eql 26 (.agg #[.int .u8 k, .int .u8 n, .string s, .string t, .int .i64 p]) (.agg #[.int .u8 k, .int .u8 n, .string s, .string t, .int .i64 p])).run Tryz.prog w = .ok (.bool true) w := by
  have u0 := Tryz.underlying23
  have u1 := Tryz.underlying24
  have u2 := Tryz.underlying9
  have u3 := Tryz.underlying2
  have a0 := Tryz.isAgg23
  have a1 := Tryz.isAgg24
  have a2 := Tryz.isAgg9
  have a3 := Tryz.isAgg2
  have hS : Tryz.prog.underlying 26 = some (.struct (Tryz.prog.fieldsOf 26)) := by kernel_rfl
  rw [run_eql_struct, show (10000 : Nat) = 9999 + 1 from rfl, run_equalIn_agg w 9999 26 _ _ hS (by kernel_rfl)]
  simp only [Program.fieldsOf, Tryz.underlying26]
  go_simp
  try simp
theorem infoI : (Tryz.prog.info? 26).map (fun i => (i.zero, i.size, i.bytes)) = some (some (.agg #[.int .u8 0, .int .u8 0, .string ⟨#[]⟩, .string ⟨#[]⟩, .int .i64 0]), 5, 48) := by kernel_rfl
def mkIt (k i : Nat) : It := (0, 0, [], [], mkI k i)
/-- so many marks -/
def marksI (k n : Nat) : List It := (List.range n).map (mkIt k)
theorem marksI_succ (k n : Nat) : marksI k (n + 1) = marksI k n ++ [mkIt k n] := by simp [marksI, List.range_succ]
theorem marksI_len (k n : Nat) : (marksI k n).length = n := by simp [marksI]
theorem itsC_append (l m : List It) : itsC (l ++ m) = itsC l ++ itsC m := by simp [itsC]
theorem itsC_len : ∀ l : List It, (itsC l).length = l.length * 5
  | [] => rfl
  | x :: l => by
    have := itsC_len l
    have e : itsC (x :: l) = itC x ++ itsC l := rfl
    rw [e, List.length_append, this, List.length_cons]
    show 5 + _ = _
    omega
theorem itsC_one (l : List It) : ∀ u ∈ itsC l, u.oneCell' = true := by
  intro u hu
  obtain ⟨x, _, hx⟩ := List.mem_flatMap.1 hu
  simp only [itC, List.mem_cons, List.mem_nil_iff, or_false] at hx
  rcases hx with rfl | rfl | rfl | rfl | rfl <;> rfl
theorem its_cells {w : World} {ad : Addr} {m : List It} (hr : RdI w (some ad) m) : ∀ j u, (itsC m)[j]? = some u → w.cell? (ad.add j) = some u := by
  intro j u hu
  have hj : j < m.length * 5 := by rw [← itsC_len]; exact (List.getElem?_eq_some_iff.1 hu).1
  have hq : j / 5 < m.length := by omega
  have hx := List.getElem?_eq_getElem hq
  obtain ⟨g, off, hA, c0, c1, c2, c3, c4⟩ := hr _ _ hx
  obtain ⟨a0, a1, a2, a3, a4⟩ := itsC_at m _ _ hx
  cases hA
  have hadd : (⟨g, off, none⟩ : Addr).add j = ⟨g, off + j, none⟩ := by unfold Addr.add; split <;> simp_all
  rw [hadd]
  rcases (by omega : j % 5 = 0 ∨ j % 5 = 1 ∨ j % 5 = 2 ∨ j % 5 = 3 ∨ j % 5 = 4) with h | h | h | h | h
  · rw [show j = j / 5 * 5 by omega, a0] at hu
    rw [show off + j = off + j / 5 * 5 by omega, c0]; exact hu
  · rw [show j = j / 5 * 5 + 1 by omega, a1] at hu
    rw [show off + j = off + j / 5 * 5 + 1 by omega, c1]; exact hu
  · rw [show j = j / 5 * 5 + 2 by omega, a2] at hu
    rw [show off + j = off + j / 5 * 5 + 2 by omega, c2]; exact hu
  · rw [show j = j / 5 * 5 + 3 by omega, a3] at hu
    rw [show off + j = off + j / 5 * 5 + 3 by omega, c3]; exact hu
  · rw [show j = j / 5 * 5 + 4 by omega, a4] at hu
    rw [show off + j = off + j / 5 * 5 + 4 by omega, c4]; exact hu
set_option maxRecDepth 100000 in
/-- 'm...' behind a row of the call's own that has room -/
theorem wpList_append_room_items {ops : Array Oper} {rest : List Oper} {o : Oper} {a : Act} {Q : Exit → Act → World → Prop} {w : World} (hgd : o.guard = none) (s x : Operand)
    (ho : o.op = .call { callee := .builtin .append, args := #[s, x], argTypes := #[22, 22] }) (base g n cap : Nat) (xs : List Value) (hs : a.eval s = .slice (some ⟨g, 0, none⟩) n cap)
    (hown : w.ownsRow base 26 5 (.slice (some ⟨g, 0, none⟩) n cap) n xs) (A : Option Addr) (c : Nat) (m : List It) (hx : a.eval x = .slice A m.length c) (hr : RdI w A m) (hc : A = none → c = 0) (hroom : n + m.length ≤ cap)
    (h : ∀ w', w'.ownsRow base 26 5 (.slice (some ⟨g, 0, none⟩) (n + m.length) cap) (n + m.length) (xs ++ itsC m) → w.grownBy w' (some g) → wpList Tryz.prog ops Q rest (a.put o.dst (.slice (some ⟨g, 0, none⟩) (n + m.length) cap)) w') : wpList Tryz.prog ops Q (o :: rest) a w := by
  obtain ⟨i0, hi, hz0, hz1, hz2⟩ := info_parts infoI
  cases A with
  | none =>
    have hm : m = [] := by
      cases m with
      | nil => rfl
      | cons x r =>
        obtain ⟨b, off, hA, _⟩ := hr 0 x rfl
        cases hA
    subst hm
    rw [hc rfl] at hx
    have h' := h w (by simpa [itsC] using hown) (World.grownBy.refl _ _)
    simp only [List.length_nil, Nat.add_zero] at h'
    exact wpList_append_own_none hgd s x _ ho base _ i0 5 Tryz.underlying22 hi _ _ _ hs hown hx h'
  | some ad =>
    have c2 : ∀ j u, (itsC m)[j]? = some u → w.cell? (ad.add j) = some u := its_cells hr
    exact wpList_append_own_spare _ hgd s x _ ho base _ i0 5 Tryz.underlying22 hi hz1 g n cap xs hs hown ad m.length c (itsC m) hx (by rw [itsC_len]) c2 (itsC_one m) hroom h
theorem grown_low' {w w1 : World} {B g : Nat} {wx : World} (h : Below B w wx) (hg : wx.grownBy w1 (some g)) (hB : B ≤ g) (hs : B ≤ wx.heap.size) : Below B w w1 :=
  Below.grown h hg hs (fun b hb => by cases hb; exact hB)
set_option maxRecDepth 100000 in
set_option maxHeartbeats 20000000 in
theorem lentShowns_any (A : Option Addr) (l : List It) (c : Nat) (w : World) (hr : RdI w A l) (hc : A = none → c = 0) (hl : l.length ≤ 200000) :
    Calls Tryz.prog 6 #[.slice A l.length c] w fun e w' => e = .returned (.slice (some ⟨w.heap.size, 0, none⟩) l.length (l.length + 12)) ∧ w'.ownsRow w.heap.size 26 5 (.slice (some ⟨w.heap.size, 0, none⟩) (l.length + 12) (l.length + 12)) (l.length + 12) (itsC (l ++ marksI 1 12)) ∧ Below w.heap.size w w' := by
  obtain ⟨i0', hi, hz0, hz1, hz2⟩ := info_parts infoI
  have HR := Kept.mk hr
  have HC := Kept.mk hc
  clear hr hc
  go_enter Tryz.func6, Tryz.ntmps6
  go_wp2_with (first | (at_make; refine wpList_make_own _ rfl _ _ 22 rfl w.heap.size 26 i0' (.agg #[.int .u8 0, .int .u8 0, .string ⟨#[]⟩, .string ⟨#[]⟩, .int .i64 0]) 5 Tryz.underlying22 hi hz0 hz1 .i64 .i64 _ (l.length + 12) (by rfl) (by rfl) (by omega) (by rw [hz2]; omega) (by unfold maxLen; omega) (Nat.le_refl _) ?_; intro w1 hown1 hgrow1; have hb1 := below_of_grown hgrow1; have R1 := Kept.mk (HR.out.below hb1); have B1 := Kept.mk hb1; have O1 := Kept.mk hown1; have s1 := hb1.size; clear hb1 hown1 hgrow1) | (at_builtin; refine wpList_append_room_items rfl (.tmp 9) (.tmp 10) rfl w.heap.size w.heap.size 0 (l.length + 12) [] (by rfl) O1.out A c l (by rfl) R1.out HC.out (by omega) ?_; intro w2 hown2 hgrow2; rw [Nat.zero_add, List.nil_append] at hown2; have hb2 := grown_low' B1.out hgrow2 (Nat.le_refl _) s1; have O2 := Kept.mk hown2; have B2 := Kept.mk hb2; have s2 := hb2.size; clear hb2 hown2 hgrow2))
  go_loopw [3, 4] (fun v i wx => ∃ k : Nat, k ≤ 12 ∧ i = .int .i64 k ∧ v = .slice (some ⟨w.heap.size, 0, none⟩) (l.length + k) (l.length + 12) ∧ Kept (wx.ownsRow w.heap.size 26 5 (.slice (some ⟨w.heap.size, 0, none⟩) (l.length + k) (l.length + 12)) (l.length + k) (itsC (l ++ marksI 1 k))) ∧ Kept (Below w.heap.size w wx)) (fun _ i _ => 12 - (intOf i).toNat)
  case atStart => exact ⟨0, by omega, rfl, by simp, ⟨by simpa [marksI] using O2.out⟩, B2⟩
  case round =>
    obtain ⟨k, hk, rfl, rfl, O3, B3⟩ := hrel
    have s3 := B3.out.size
    by_cases hlt : k < 12
    · have i0 : (0 : Int) ≤ (k : Int) := by omega
      have i1 : (k : Int) < 12 := by omega
      go_wp2_with (fail)
      refine (markShown_any 1 k _ (by omega) (by omega) (by omega) (by omega)).mono ?_; rintro e w4 ⟨rfl, hb4⟩
      have O4 := Kept.mk (own_below O3.out hb4)
      have B4 := Kept.mk (B3.out.trans (hb4.mono s3))
      have s4 : w.heap.size ≤ w4.heap.size := B4.out.size
      clear hb4
      go_wp2_with (at_builtin; refine wpList_append_own_spare _ rfl (.tmp 16) (.tmp 19) 22 rfl w.heap.size 26 i0' 5 Tryz.underlying22 hi hz1 w.heap.size (l.length + k) (l.length + 12) _ (by rfl) (O4.out.alloc _) ⟨w4.heap.size, 0, none⟩ 1 1 (itC (mkIt 1 k)) (by rfl) (by rfl) (World.news_of_block (heap_alloc_new _ _)) (by intro u hu; exact itsC_one [mkIt 1 k] u (by simpa [itsC] using hu)) (by omega) ?_; intro w5 hown5 hgrow5; have hb5 := grown_low' (B4.out.alloc s4 _) hgrow5 (Nat.le_refl _) (by simp; omega); have O5 := Kept.mk hown5; have B5 := Kept.mk hb5; clear hown5 hgrow5 hb5)
      go_roundw
      case rel => exact ⟨k + 1, by omega, by go_num, rfl, ⟨by rw [marksI_succ, ← List.append_assoc, itsC_append, show itsC [mkIt 1 k] = itC (mkIt 1 k) by simp [itsC]]; exact O5.out⟩, B5⟩
      case measure => simp [intOf]; omega
    · obtain rfl : k = 12 := by omega
      have i0 : (0 : Int) ≤ (l.length : Int) := by omega
      go_wp2
      go_ret
      exact ⟨rfl, O3.out, B3.out⟩
end Go.Proofs.YtakccaldcolbmaaGreatDoor.Wln
