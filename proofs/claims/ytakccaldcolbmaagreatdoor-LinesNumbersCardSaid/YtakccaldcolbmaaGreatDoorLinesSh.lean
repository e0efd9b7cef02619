/- The walks over shown and Shown, SameTexts, SameFates, SameCommand (chapter 31). -/
import Derived.Test.YtakccaldcolbmaaGreatDoorLinesQu
import Derived.Test.YtakccaldcolbmaaGreatDoorLinesCo
import Derived.Test.YtakccaldcolbmaaGreatDoorBeh
import Derived.Lib.ItoaLen
namespace Go.Proofs.YtakccaldcolbmaaGreatDoor.Wln
open Go Go.RowKit Go.Proofs.YtakccaldcolbmaaGreatDoor.Kb

theorem format_any (n : Int) (w : World) (h0 : -9223372036854775808 ≤ n) (h1 : n ≤ 9223372036854775807) (ht : LEnv w) :
    Calls Tryz.prog 37 #[.int .i64 n, .int .i64 10] w fun e w' => e = .returned (.string ⟨(Lib.itoa n).toArray⟩) ∧ Below w.heap.size w w' :=
  (Any.strconv_FormatInt_10 Tryz.laysM173 n h0 h1 w ht.pow).mono fun e w' ⟨he, k, os, hw⟩ => ⟨he, by subst hw; exact Lib.below_grow _ _ (Nat.le_refl _) _ _⟩
/-- an item: its kind, its node's kind, name, text, number -/
abbrev It := Nat × Nat × List UInt8 × List UInt8 × Int
def kindL (n : Nat) : List UInt8 := match n with
  | 1 => [114, 111, 111, 116]
  | 2 => [101, 108, 101, 109, 101, 110, 116]
  | 3 => [97, 116, 116, 114, 105, 98, 117, 116, 101]
  | 4 => [116, 101, 120, 116]
  | 5 => [99, 111, 109, 109, 101, 110, 116]
  | 6 => [105, 110, 115, 116, 114, 117, 99, 116, 105, 111, 110]
  | _ => [110, 111, 100, 101]
def boolL (z : Bool) : List UInt8 := if z = true then [116, 114, 117, 101] else [102, 97, 108, 115, 101]
/-- an item's line -/
def showL (x : It) : List UInt8 := match x.1 with
  | 1 => kindL x.2.1 ++ [32] ++ Pln.quoL x.2.2.1 ++ [32] ++ Pln.quoL x.2.2.2.1
  | 2 => [105, 110, 116, 32] ++ Lib.itoa x.2.2.2.2
  | 3 => [115, 116, 114, 105, 110, 103, 32] ++ Pln.quoL x.2.2.2.1
  | 4 => [98, 111, 111, 108, 32] ++ boolL (x.2.2.2.2 == 1)
  | _ => [110, 111, 110, 101]
def itV (x : It) : Value := .agg #[.int .u8 (x.1 : Int), .int .u8 (x.2.1 : Int), .string ⟨x.2.2.1.toArray⟩, .string ⟨x.2.2.2.1.toArray⟩, .int .i64 x.2.2.2.2]
theorem ret_strL {x y : List UInt8} (h : x = y) : Ending.returned (.string ⟨x.toArray⟩) = .returned (.string ⟨y.toArray⟩) := by rw [h]
theorem bool_any (z : Bool) (w : World) : Calls Tryz.prog 38 #[.bool z] w fun e w' => e = .returned (.string ⟨(boolL z).toArray⟩) ∧ w = w' :=
  (Any.strconv_FormatBool Tryz.lays121 z w).mono fun e w' ⟨he, hw⟩ => ⟨by rw [he]; cases z <;> rfl, hw.symm⟩
theorem catL (a b : List UInt8) : ((⟨a.toArray⟩ : ByteArray) ++ ⟨b.toArray⟩) = ⟨(a ++ b).toArray⟩ := by
  apply ByteArray.ext
  apply Array.ext'
  simp
theorem cat_eq {a b : ByteArray} {l m : List UInt8} (ha : a = ⟨l.toArray⟩) (hb : b = ⟨m.toArray⟩) : a ++ b = ⟨(l ++ m).toArray⟩ := by rw [ha, hb, catL]
theorem quoL_len (l : List UInt8) : (Pln.quoL l).length ≤ 4 * l.length + 2 := by
  have := quo_len l
  unfold Pln.quoL
  simp only [List.length_cons, List.length_append, List.length_nil]
  omega
theorem ret_cat (a b : List UInt8) : Ending.returned (.string ((⟨a.toArray⟩ : ByteArray) ++ ⟨b.toArray⟩)) = .returned (.string ⟨(a ++ b).toArray⟩) := by rw [catL]
theorem node_ret {kl nm tx : List UInt8} {kb qn qt : ByteArray} (h1 : (⟨kl.toArray⟩ : ByteArray) = kb) (h2 : qn = ⟨(Pln.quoL nm).toArray⟩) (h3 : qt = ⟨(Pln.quoL tx).toArray⟩) :
    Ending.returned (.string (kb ++ ⟨#[32]⟩ ++ qn ++ ⟨#[32]⟩ ++ qt)) = .returned (.string ⟨(kl ++ [32] ++ Pln.quoL nm ++ [32] ++ Pln.quoL tx).toArray⟩) := by
  subst h1
  subst h2
  subst h3
  rw [show (⟨#[32]⟩ : ByteArray) = ⟨([32] : List UInt8).toArray⟩ from rfl, catL, catL, catL, catL]
theorem kind_cell {w : World} (h : LEnv w) {nd : Nat} (h0 : 0 < nd) (h7 : nd < 7) : w.cell? ⟨0, nd, none⟩ = some (.string ⟨(kindL nd).toArray⟩) := by
  obtain ⟨ty, fr, hc⟩ := h.kinds
  rw [cell_of_row w _ nd _ _ _ hc]
  rcases (by omega : nd = 1 ∨ nd = 2 ∨ nd = 3 ∨ nd = 4 ∨ nd = 5 ∨ nd = 6) with rfl | rfl | rfl | rfl | rfl | rfl
  all_goals rfl
set_option maxRecDepth 100000 in
set_option maxHeartbeats 4000000 in
theorem shown_any (k nd : Nat) (nm tx : List UInt8) (n : Int) (w : World) (hE : LEnv w) (hk : k < 256) (hnd : nd < 256) (h1 : nm.length ≤ 100000) (h2 : tx.length ≤ 100000) (h3 : -9223372036854775808 ≤ n) (h4 : n ≤ 9223372036854775807) :
    Calls Tryz.prog 20 #[.agg #[.int .u8 (k : Int), .int .u8 (nd : Int), .string ⟨nm.toArray⟩, .string ⟨tx.toArray⟩, .int .i64 n]] w fun e w' => e = .returned (.string ⟨(showL (k, nd, nm, tx, n)).toArray⟩) ∧ Below w.heap.size w w' := by
  have hB0 : Below w.heap.size w (w.alloc (.cells #[.int .u8 (k : Int), .int .u8 (nd : Int), .string ⟨nm.toArray⟩, .string ⟨tx.toArray⟩, .int .i64 n] 26)) := (Below.refl _ _).alloc (Nat.le_refl _) _
  have hE0 := hE.below hB0
  by_cases k1 : k = 1
  · subst k1
    have hn := World.alloc_heap_new w (.cells #[.int .u8 1, .int .u8 (nd : Int), .string ⟨nm.toArray⟩, .string ⟨tx.toArray⟩, .int .i64 n] 26)
    obtain ⟨Q, hQ⟩ : ∃ Q : ByteArray → ByteArray, ∀ t, Q t = ⟨(Pln.quoL t.data.toList).toArray⟩ := ⟨_, fun _ => rfl⟩
    have HQ := Kept.mk hQ
    have CQ : Kept (∀ (t : ByteArray) (x : Beh (w.alloc (.cells #[.int .u8 1, .int .u8 (nd : Int), .string ⟨nm.toArray⟩, .string ⟨tx.toArray⟩, .int .i64 n] 26))), t.size ≤ 100000 → Calls Tryz.prog 11 #[.string t] x.fin fun e w' => e = .returned (.string (Q t)) ∧ Below x.fin.heap.size x.fin w') := ⟨fun t x ht => by rw [hQ t]; exact Quote_any t x.fin ht⟩
    have hq1 : (Q ⟨nm.toArray⟩).size ≤ 4 * nm.length + 2 := by rw [hQ, Lib.size_mk]; exact quoL_len nm
    have hq2 : (Q ⟨tx.toArray⟩).size ≤ 4 * tx.length + 2 := by rw [hQ, Lib.size_mk]; exact quoL_len tx
    clear hQ
    have c0 := cell_of_row _ w.heap.size 0 _ _ _ hn
    have c1 := cell_of_row _ w.heap.size 1 _ _ _ hn
    have c2 := cell_of_row _ w.heap.size 2 _ _ _ hn
    have c3 := cell_of_row _ w.heap.size 3 _ _ _ hn
    have x2 := beh_cell (v := .string ⟨nm.toArray⟩) c2
    have x3 := beh_cell (v := .string ⟨tx.toArray⟩) c3
    have hs1 : (⟨nm.toArray⟩ : ByteArray).size ≤ 100000 := by rw [Lib.size_mk]; exact h1
    have hs2 : (⟨tx.toArray⟩ : ByteArray).size ≤ 100000 := by rw [Lib.size_mk]; exact h2
    have HB0 := Kept.mk hB0
    by_cases hnd0 : 0 < nd ∧ nd < 7
    · have hkc := kind_cell hE hnd0.1 hnd0.2
      have hkg := cell_lt hkc
      have p1 : (0 : Int) < (nd : Int) := by omega
      have p2 : (nd : Int) < 7 := by omega
      have hkl : (kindL nd).length ≤ 11 := by
        rcases (by omega : nd = 1 ∨ nd = 2 ∨ nd = 3 ∨ nd = 4 ∨ nd = 5 ∨ nd = 6) with rfl | rfl | rfl | rfl | rfl | rfl
        all_goals decide
      have hsh : showL (1, nd, nm, tx, n) = kindL nd ++ [32] ++ Pln.quoL nm ++ [32] ++ Pln.quoL tx := rfl
      rw [hsh]
      generalize kindL nd = kl at hkc hkl ⊢
      obtain ⟨kb, hkb⟩ : ∃ kb : ByteArray, (⟨kl.toArray⟩ : ByteArray) = kb := ⟨_, rfl⟩
      have hks : kb.size ≤ 11 := by rw [← hkb, Lib.size_mk]; exact hkl
      rw [hkb] at hkc
      have HK := Kept.mk hkb
      have z1 : ¬ 9223372036854775807 < kb.size + 1 := by omega
      have z2 : ¬ 9223372036854775807 < kb.size + 1 + (Q ⟨nm.toArray⟩).size := by omega
      have z3 : ¬ 9223372036854775807 < kb.size + 1 + (Q ⟨nm.toArray⟩).size + 1 := by omega
      have z4 : ¬ 9223372036854775807 < kb.size + 1 + (Q ⟨nm.toArray⟩).size + 1 + (Q ⟨tx.toArray⟩).size := by omega
      clear hsh hB0 hE0 hE hn hnd0 hkb hkl
      go_enter Tryz.func20, Tryz.ntmps20
      go_wp2
      refine wp_region_beh (by kernel_rfl) (by kernel_rfl) ?_
      repeat
        (refine Qw_step (fun K hK => ?_)
         go_simp
         first
           | (refine hK _ ?_; clear hK K)
           | (apply Exists.intro
              refine ⟨fun _ => ?_, hK _ ?_⟩
              (go_at_call 11; exact Calls.beh_of (CQ.out _ _ (by first | exact hs1 | exact hs2)))
              clear hK K))
      refine Qw_nil ?_
      rintro _ ⟨⟨w5, hb5⟩, rfl⟩
      have H5 := Kept.mk hb5
      clear hb5
      go_wp2
      go_ret
      exact ⟨node_ret HK.out (HQ.out _) (HQ.out _), HB0.out.trans (H5.out.mono HB0.out.size)⟩
    · have hkl : kindL nd = [110, 111, 100, 101] := by
        unfold kindL
        split
        all_goals first
          | (exfalso; omega)
          | rfl
      have hsh : showL (1, nd, nm, tx, n) = kindL nd ++ [32] ++ Pln.quoL nm ++ [32] ++ Pln.quoL tx := rfl
      rw [hsh, hkl]
      have z2 : ¬ 9223372036854775807 < 5 + (Q ⟨nm.toArray⟩).size := by omega
      have z3 : ¬ 9223372036854775807 < 5 + (Q ⟨nm.toArray⟩).size + 1 := by omega
      have z4 : ¬ 9223372036854775807 < 5 + (Q ⟨nm.toArray⟩).size + 1 + (Q ⟨tx.toArray⟩).size := by omega
      clear hsh hB0 hE0 hE hn hkl
      by_cases p1 : nd = 0
      · subst p1
        clear hnd0
        go_enter Tryz.func20, Tryz.ntmps20
        go_wp2
        refine wp_region_beh (by kernel_rfl) (by kernel_rfl) ?_
        repeat
          (refine Qw_step (fun K hK => ?_)
           go_simp
           first
             | (refine hK _ ?_; clear hK K)
             | (apply Exists.intro
                refine ⟨fun _ => ?_, hK _ ?_⟩
                (go_at_call 11; exact Calls.beh_of (CQ.out _ _ (by first | exact hs1 | exact hs2)))
                clear hK K))
        refine Qw_nil ?_
        rintro _ ⟨⟨w5, hb5⟩, rfl⟩
        have H5 := Kept.mk hb5
        clear hb5
        go_wp2
        go_ret
        exact ⟨node_ret (kl := [110, 111, 100, 101]) rfl (HQ.out _) (HQ.out _), HB0.out.trans (H5.out.mono HB0.out.size)⟩
      · have p2 : (0 : Int) < (nd : Int) := by omega
        have p3 : ¬ (nd : Int) < 7 := by omega
        clear hnd0 p1
        go_enter Tryz.func20, Tryz.ntmps20
        go_wp2
        refine wp_region_beh (by kernel_rfl) (by kernel_rfl) ?_
        repeat
          (refine Qw_step (fun K hK => ?_)
           go_simp
           first
             | (refine hK _ ?_; clear hK K)
             | (apply Exists.intro
                refine ⟨fun _ => ?_, hK _ ?_⟩
                (go_at_call 11; exact Calls.beh_of (CQ.out _ _ (by first | exact hs1 | exact hs2)))
                clear hK K))
        refine Qw_nil ?_
        rintro _ ⟨⟨w5, hb5⟩, rfl⟩
        have H5 := Kept.mk hb5
        clear hb5
        go_wp2
        go_ret
        exact ⟨node_ret (kl := [110, 111, 100, 101]) rfl (HQ.out _) (HQ.out _), HB0.out.trans (H5.out.mono HB0.out.size)⟩
  by_cases k2 : k = 2
  · subst k2
    have cF := format_any n _ h3 h4 hE0
    have hbd : (Lib.itoa n).length ≤ 21 := Lib.itoa_length_le n h3 h4
    have CF := Kept.mk cF
    have HB0 := Kept.mk hB0
    clear cF hE0 hB0 hE
    go_enter Tryz.func20, Tryz.ntmps20
    go_wp2_with (go_at_call 37; refine CF.out.mono ?_; rintro e w5 ⟨rfl, hb5⟩; have H5 := Kept.mk hb5; clear hb5)
    go_ret
    exact ⟨ret_cat [105, 110, 116, 32] (Lib.itoa n), HB0.out.trans (H5.out.mono HB0.out.size)⟩
  by_cases k3 : k = 3
  · subst k3
    have hbd := quoL_len tx
    have cQ := fun wx => Quote_any ⟨tx.toArray⟩ wx (by rw [Lib.size_mk]; omega)
    have CQ := Kept.mk cQ
    have HB0 := Kept.mk hB0
    clear cQ hE0 hB0 hE
    go_enter Tryz.func20, Tryz.ntmps20
    go_wp2_with (go_at_call 11; refine (CQ.out _).mono ?_; rintro e w5 ⟨rfl, hb5⟩; have H5 := Kept.mk hb5; clear hb5)
    go_ret
    exact ⟨ret_cat [115, 116, 114, 105, 110, 103, 32] (Pln.quoL tx), HB0.out.trans (H5.out.mono HB0.out.size)⟩
  by_cases k4 : k = 4
  · subst k4
    have HB0 := Kept.mk hB0
    clear hE0 hB0 hE
    have hz : showL (4, nd, nm, tx, n) = [98, 111, 111, 108, 32] ++ boolL (n == 1) := rfl
    rw [hz]
    have hbd : (boolL (n == 1)).length ≤ 5 := by unfold boolL; split <;> simp
    have CB : Kept (∀ wx, Calls Tryz.prog 38 #[.bool (n == 1)] wx fun e w' => e = .returned (.string ⟨(boolL (n == 1)).toArray⟩) ∧ wx = w') := ⟨bool_any _⟩
    clear hz
    generalize boolL (n == 1) = bl at CB hbd ⊢
    go_enter Tryz.func20, Tryz.ntmps20
    go_wp2_with (go_at_call 38; refine (CB.out _).mono ?_; rintro e w5 ⟨rfl, rfl⟩)
    go_ret
    exact ⟨ret_cat [98, 111, 111, 108, 32] bl, HB0.out⟩
  · have q1 : (((k : Nat) : Int) == 1) = false := by simp; omega
    have q2 : (((k : Nat) : Int) == 2) = false := by simp; omega
    have q3 : (((k : Nat) : Int) == 3) = false := by simp; omega
    have q4 : (((k : Nat) : Int) == 4) = false := by simp; omega
    have hno : showL (k, nd, nm, tx, n) = [110, 111, 110, 101] := by
      unfold showL
      split
      · exact absurd (by assumption) k1
      · exact absurd (by assumption) k2
      · exact absurd (by assumption) k3
      · exact absurd (by assumption) k4
      · rfl
    rw [hno]
    have HB0 := Kept.mk hB0
    clear hE0 hB0 hE hno k1 k2 k3 k4
    go_enter Tryz.func20, Tryz.ntmps20
    go_wp2
    go_ret
    exact ⟨rfl, HB0.out⟩
end Go.Proofs.YtakccaldcolbmaaGreatDoor.Wln
