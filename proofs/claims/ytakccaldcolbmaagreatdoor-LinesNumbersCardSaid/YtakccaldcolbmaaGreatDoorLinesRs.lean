/- The walk over the document's Shown (chapter 31). -/
import Derived.Test.YtakccaldcolbmaaGreatDoorLinesRq
import Derived.Test.YtakccaldcolbmaaGreatDoorLinesRd
import Derived.Test.YtakccaldcolbmaaGreatDoorLinesKs
import Derived.Deep.RegionHeld3
import Derived.Deep.AppendLies
namespace Go.Proofs.YtakccaldcolbmaaGreatDoor.Wln
open Go Go.RowKit Go.Proofs.YtakccaldcolbmaaGreatDoor.Kb Go.Proofs.YtakccaldcolbmaaGreatDoor.Flt

theorem s9t {w wy wx : World} {B : Nat} {u v z : Value} (h : wy.cell? ⟨B, 1, none⟩ = some u ∧ wy.cell? ⟨B, 2, none⟩ = some v ∧ wy.cell? ⟨B, 3, none⟩ = some z ∧ Below w.heap.size w wy) (hb : Below wy.heap.size wy wx) : wx.cell? ⟨B, 1, none⟩ = some u ∧ wx.cell? ⟨B, 2, none⟩ = some v ∧ wx.cell? ⟨B, 3, none⟩ = some z ∧ Below w.heap.size w wx :=
  ⟨by rw [hb.cell (p := ⟨B, 1, none⟩) (cell_lt h.1)]; exact h.1, by rw [hb.cell (p := ⟨B, 2, none⟩) (cell_lt h.2.1)]; exact h.2.1, by rw [hb.cell (p := ⟨B, 3, none⟩) (cell_lt h.2.2.1)]; exact h.2.2.1, h.2.2.2.trans (hb.mono h.2.2.2.size)⟩
theorem s9d {w wy : World} {B : Nat} {u v z : Value} (h : wy.cell? ⟨B, 1, none⟩ = some u ∧ wy.cell? ⟨B, 2, none⟩ = some v ∧ wy.cell? ⟨B, 3, none⟩ = some z ∧ Below w.heap.size w wy) : wy.drew.cell? ⟨B, 1, none⟩ = some u ∧ wy.drew.cell? ⟨B, 2, none⟩ = some v ∧ wy.drew.cell? ⟨B, 3, none⟩ = some z ∧ Below w.heap.size w wy.drew := ⟨h.1, h.2.1, h.2.2.1, h.2.2.2.drew⟩
theorem s9a {w wy : World} {B : Nat} {u v z : Value} (o : Obj) (h : wy.cell? ⟨B, 1, none⟩ = some u ∧ wy.cell? ⟨B, 2, none⟩ = some v ∧ wy.cell? ⟨B, 3, none⟩ = some z ∧ Below w.heap.size w wy) : (wy.alloc o).cell? ⟨B, 1, none⟩ = some u ∧ (wy.alloc o).cell? ⟨B, 2, none⟩ = some v ∧ (wy.alloc o).cell? ⟨B, 3, none⟩ = some z ∧ Below w.heap.size w (wy.alloc o) := s9t h ((Below.refl _ _).alloc (Nat.le_refl _) _)
theorem s9g {w wx w7 : World} {B n : Nat} {u v z y : Value} {xs : List Value} (h : wx.cell? ⟨B, 1, none⟩ = some u ∧ wx.cell? ⟨B, 2, none⟩ = some v ∧ wx.cell? ⟨B, 3, none⟩ = some z ∧ Below w.heap.size w wx) (ho : wx.ownsRow w.heap.size 9 1 y n xs) (hg : wx.grownBy w7 y.ownBlock) (hB : y.ownBlock ≠ some B) :
    w7.cell? ⟨B, 1, none⟩ = some u ∧ w7.cell? ⟨B, 2, none⟩ = some v ∧ w7.cell? ⟨B, 3, none⟩ = some z ∧ Below w.heap.size w w7 := by
  exact ⟨by rw [hg.cell_far ⟨B, 1, none⟩ (cell_lt h.1) (fun e => hB e.symm)]; exact h.1, by rw [hg.cell_far ⟨B, 2, none⟩ (cell_lt h.2.1) (fun e => hB e.symm)]; exact h.2.1, by rw [hg.cell_far ⟨B, 3, none⟩ (cell_lt h.2.2.1) (fun e => hB e.symm)]; exact h.2.2.1, Below.grown h.2.2.2 hg h.2.2.2.size (fun _ hj => (ho.lt _ hj).1)⟩
/-- a text is put behind a row of texts of the call's own, at a step of a region that draws its order -/
theorem step_append_str {ops : Array Oper} {o : Oper} {a : Act} {w : World} {K : Act → World → Prop} {Q : Exit → Act → World → Prop} {E : Prop} (hgd : o.guard = none) (s x : Operand)
    (ho : o.op = .call { callee := .builtin .append, args := #[s, x], argTypes := #[29, 29] }) (base : Nat) (v : Value) (n : Nat) (xs : List Value) (hs : a.eval s = v) (hown : w.ownsRow base 9 1 v n xs) (g : Nat) (t : ByteArray)
    (hx : a.eval x = .slice (some ⟨g, 0, none⟩) 1 1) (hg : w.cell? ⟨g, 0, none⟩ = some (.string t)) (hn : n ≤ 1000000) (hbase : base ≤ w.heap.size)
    (h : ∀ v' w', w'.ownsRow base 9 1 v' (n + 1) (xs ++ [.string t]) → w.grownBy w' v.ownBlock → K (a.put o.dst v') w') : if Region.wanted o (yielded ops a.tmps) = true then Oper.wp Tryz.prog o a w K Q else E := by
  have hw : Region.wanted o (yielded ops a.tmps) = true := by simp [Region.wanted, hgd]
  rw [if_pos hw]
  obtain ⟨i0, hi, hz0, hz1, hz2⟩ := info_parts infoT
  refine wp_append_own w s x _ ho base _ i0 (.string ⟨#[]⟩) 1 16 Tryz.underlying29 hi hz0 hz1 hz2 rfl (by decide) v n xs hs hown ⟨g, 0, none⟩ 1 1 [.string t] hx rfl (fun j u hu => ?_) (by intro u hu; simp at hu; subst hu; rfl) (by unfold maxLen; omega) (by omega) hbase (fun v' w' h1 h2 _ => h v' w' h1 h2)
  match j, hu with
  | 0, hu =>
    cases hu
    have hadd : (⟨g, 0, none⟩ : Addr).add 0 = ⟨g, 0, none⟩ := by unfold Addr.add; simp
    rw [hadd]
    exact hg
  | j + 1, hu => simp at hu
set_option maxRecDepth 100000 in
set_option maxHeartbeats 8000000 in
theorem refShown_any (A : Option Addr) (c : Nat) (l : List It) (w : World) (hr : RdI w A l) (hl : l.length ≤ 1000000) (hf : ∀ x ∈ l, FitI x) :
    Calls Tryz.prog 9 #[.slice A l.length c] w fun e w' => ∃ v, e = .returned v ∧ w'.ownsRow w.heap.size 9 1 v l.length (stC (l.map showL)) ∧ Below w.heap.size w w' := by
  obtain ⟨i0', hi, hz0, hz1, hz2⟩ := info_parts infoT
  have HR := Kept.mk hr
  have HF := Kept.mk hf
  clear hr hf
  go_enter Tryz.func9, Tryz.ntmps9
  go_wp2
  go_loopw [3, 4, 5] (fun v i _ wx => ∃ k : Nat, i = .int .i64 (k : Int) ∧ k ≤ l.length ∧ Kept (wx.ownsRow w.heap.size 9 1 v k (stC ((l.take k).map showL))) ∧ Kept (Below w.heap.size w wx)) (fun _ i _ _ => l.length - (intOf i).toNat)
  case atStart => exact ⟨0, rfl, by omega, ⟨World.ownsRow_nil _ _ _ _⟩, ⟨Below.refl _ _⟩⟩
  case round =>
    obtain ⟨k, rfl, hk, HO, HB⟩ := hrel
    have k0 : (0 : Int) ≤ (k : Int) := by omega
    by_cases hlt : k < l.length
    · have k1 : (k : Int) < (l.length : Int) := by omega
      obtain ⟨x, hx⟩ : ∃ x, l[k]? = some x := ⟨_, List.getElem?_eq_getElem hlt⟩
      obtain ⟨g, off, rfl, x0, x1, x2, x3, x4⟩ := (HR.out.below HB.out) k x hx
      obtain ⟨a, b, nm, tx, n⟩ := x
      obtain ⟨f1, f2, f3, f4, f5, f6⟩ := HF.out _ (List.mem_of_getElem? hx)
      simp only at x0 x1 x2 x3 x4 f1 f2 f3 f4 f5 f6
      have htk : (l.take (k + 1)).map showL = (l.take k).map showL ++ [showL (a, b, nm, tx, n)] := by
        rw [List.take_add_one, hx, List.map_append]
        rfl
      have hBI : Below wr.heap.size wr (wr.alloc (.cells #[.int .u8 (a : Int), .int .u8 (b : Int), .string ⟨nm.toArray⟩, .string ⟨tx.toArray⟩, .int .i64 n] 26)) := (Below.refl _ _).alloc (Nat.le_refl _) _
      have HTK := Kept.mk htk
      have HO6 := Kept.mk (own_below HO.out hBI)
      have HB6 := Kept.mk (HB.out.trans (hBI.mono HB.out.size))
      have hs1 : (⟨nm.toArray⟩ : ByteArray).size ≤ 100000 := by rw [Lib.size_mk]; exact f3
      have hs2 : (⟨tx.toArray⟩ : ByteArray).size ≤ 100000 := by rw [Lib.size_mk]; exact f4
      have hal := World.alloc_heap_new wr (.cells #[.int .u8 (a : Int), .int .u8 (b : Int), .string ⟨nm.toArray⟩, .string ⟨tx.toArray⟩, .int .i64 n] 26)
      clear hx htk
      go_upto_region 6 with (fail)
      have c0 := cell_of_row _ wr.heap.size 0 _ _ _ hal
      have c1 := cell_of_row _ wr.heap.size 1 _ _ _ hal
      have c2 := cell_of_row _ wr.heap.size 2 _ _ _ hal
      have c3 := cell_of_row _ wr.heap.size 3 _ _ _ hal
      have c4 := cell_of_row _ wr.heap.size 4 _ _ _ hal
      have lw : wr.heap.size < (wr.alloc (.cells #[.int .u8 (a : Int), .int .u8 (b : Int), .string ⟨nm.toArray⟩, .string ⟨tx.toArray⟩, .int .i64 n] 26)).heap.size := by simp
      clear hBI hal
      generalize wr.alloc (.cells #[.int .u8 (a : Int), .int .u8 (b : Int), .string ⟨nm.toArray⟩, .string ⟨tx.toArray⟩, .int .i64 n] 26) = W1 at HO6 HB6 c0 c1 c2 c3 c4 lw ⊢
      by_cases a1 : a = 1
      · subst a1
        obtain ⟨Q, hQ⟩ : ∃ Q : ByteArray → ByteArray, ∀ t, Q t = ⟨(Pln.quoL t.data.toList).toArray⟩ := ⟨_, fun _ => rfl⟩
        have CQ : Kept (∀ (t : ByteArray) (wx : World), t.size ≤ 100000 → Calls Tryz.prog 12 #[.string t] wx fun e w' => e = .returned (.string (Q t)) ∧ Below wx.heap.size wx w') := ⟨fun t wx ht => by rw [hQ t]; exact refQuote_any t wx ht⟩
        have hq1 : (Q ⟨nm.toArray⟩).size ≤ 4 * nm.length + 2 := by rw [hQ, Lib.size_mk]; exact quoL_len nm
        have hq2 : (Q ⟨tx.toArray⟩).size ≤ 4 * tx.length + 2 := by rw [hQ, Lib.size_mk]; exact quoL_len tx
        obtain ⟨kb, hkb⟩ : ∃ kb : ByteArray, (⟨(kindL b).toArray⟩ : ByteArray) = kb := ⟨_, rfl⟩
        have hks : kb.size ≤ 11 := by
          rw [← hkb, Lib.size_mk]
          unfold kindL
          split
          all_goals decide
        have CK : Kept (∀ wx, Calls Tryz.prog 21 #[.int .u8 (b : Int)] wx fun e w' => e = .returned (.string kb) ∧ wx = w') := ⟨fun wx => by rw [← hkb]; exact refkind_any b wx⟩
        have hnew : (.string (kb ++ ⟨#[32]⟩ ++ Q ⟨nm.toArray⟩ ++ ⟨#[32]⟩ ++ Q ⟨tx.toArray⟩) : Value) = .string ⟨(showL (1, b, nm, tx, n)).toArray⟩ := by
          have := node_ret hkb (hQ ⟨nm.toArray⟩) (hQ ⟨tx.toArray⟩)
          injection this
        have HN := Kept.mk hnew
        have z1 : ¬ 9223372036854775807 < kb.size + 1 := by omega
        have z2 : ¬ 9223372036854775807 < kb.size + 1 + (Q ⟨nm.toArray⟩).size := by omega
        have z3 : ¬ 9223372036854775807 < kb.size + 1 + (Q ⟨nm.toArray⟩).size + 1 := by omega
        have z4 : ¬ 9223372036854775807 < kb.size + 1 + (Q ⟨nm.toArray⟩).size + 1 + (Q ⟨tx.toArray⟩).size := by omega
        clear hnew hQ hkb
        simp only [List.getElem?_toArray, List.getElem?_cons_zero, List.getElem?_cons_succ] at c1 c2 c3
        have hne : u3.ownBlock ≠ some wr.heap.size := fun e => by have := (HO.out.lt _ e).2; omega
        have S0 : W1.cell? ⟨wr.heap.size, 1, none⟩ = some (.int .u8 (b : Int)) ∧ W1.cell? ⟨wr.heap.size, 2, none⟩ = some (.string ⟨nm.toArray⟩) ∧ W1.cell? ⟨wr.heap.size, 3, none⟩ = some (.string ⟨tx.toArray⟩) ∧ Below w.heap.size w W1 := ⟨c1, c2, c3, HB6.out⟩
        have FST := Kept.mk trivial
        go_upto_region 9 with (fail)
        go_region_held3 (fun wx => wx.cell? ⟨wr.heap.size, 1, none⟩ = some (.int .u8 (b : Int)) ∧ wx.cell? ⟨wr.heap.size, 2, none⟩ = some (.string ⟨nm.toArray⟩) ∧ wx.cell? ⟨wr.heap.size, 3, none⟩ = some (.string ⟨tx.toArray⟩) ∧ Below w.heap.size w wx) (first
            | assumption
            | exact s9d S0
            | exact s9t (by assumption) (by assumption)
            | exact s9d (by assumption)
            | exact s9a _ (by assumption)) (first
          | (go_at_call 21; refine (CK.out _).mono ?_; rintro e w3 ⟨rfl, rfl⟩)
          | (go_at_call 12; clear FST; refine (CQ.out _ _ (by first | exact hs1 | exact hs2)).mono ?_; rintro e w3 ⟨rfl, hb3⟩)
          | (go_at_call 12; refine (CQ.out _ _ (by first | exact hs1 | exact hs2)).mono ?_; rintro e w4 ⟨rfl, hb4⟩; have hS3 := ((Below.refl W1.heap.size W1).drew).trans (hb3.mono (Nat.le_refl _)); have hS := (hS3.trans (hb4.mono hS3.size)).alloc (Nat.le_trans hS3.size hb4.size) (.cells #[.string (kb ++ ⟨#[32]⟩ ++ Q ⟨nm.toArray⟩ ++ ⟨#[32]⟩ ++ Q ⟨tx.toArray⟩)] 9); have hO3 := own_below HO6.out hS; have hz3 := Nat.le_trans HB6.out.size hS.size; have hc3 := (World.cell?_alloc_new w4 #[.string (kb ++ ⟨#[32]⟩ ++ Q ⟨nm.toArray⟩ ++ ⟨#[32]⟩ ++ Q ⟨tx.toArray⟩)] 9 0).trans (show _ = some (.string (kb ++ ⟨#[32]⟩ ++ Q ⟨nm.toArray⟩ ++ ⟨#[32]⟩ ++ Q ⟨tx.toArray⟩)) from rfl))
          | (refine step_append_str rfl (.tmp 23) (.tmp 37) rfl w.heap.size u3 k (stC ((l.take k).map showL)) (by rfl) hO3 w4.heap.size (kb ++ ⟨#[32]⟩ ++ Q ⟨nm.toArray⟩ ++ ⟨#[32]⟩ ++ Q ⟨tx.toArray⟩) (by rfl) hc3 (by omega) hz3 ?_; intro v7 w7 ho7 hg7; have hS7 := s9g (w := w) (B := wr.heap.size) (by assumption) hO3 hg7 hne))
        all_goals
          go_wp2
          go_roundw
        all_goals first
          | exact ⟨k + 1, by go_num, by omega, ⟨by rw [HTK.out, stC_append]; have h := ho7; rw [HN.out] at h; exact h⟩, ⟨hS7.2.2.2⟩⟩
          | (simp [intOf]; omega)
      have g1 : ((a : Int) == 1) = false := by simp; omega
      by_cases a2 : a = 2
      · subst a2
        obtain ⟨D, hD⟩ : ∃ D : ByteArray, (⟨(Lib.itoa n).toArray⟩ : ByteArray) = D := ⟨_, rfl⟩
        have hDz : D.size ≤ 21 := by rw [← hD, Lib.size_mk]; exact Lib.itoa_length_le n f5 f6
        have hz : ¬ 9223372036854775807 < 4 + D.size := by omega
        have hnew : (.string (⟨#[105, 110, 116, 32]⟩ ++ D) : Value) = .string ⟨(showL (2, b, nm, tx, n)).toArray⟩ := by
          rw [← hD, show (⟨#[105, 110, 116, 32]⟩ : ByteArray) = ⟨([105, 110, 116, 32] : List UInt8).toArray⟩ from rfl, catL]
          rfl
        have CD : Kept (Calls Tryz.prog 22 #[.int .i64 n] W1 fun e w' => e = .returned (.string D) ∧ Below W1.heap.size W1 w') := ⟨by rw [← hD]; exact refdigits_any n W1 f5 f6⟩
        have HN := Kept.mk hnew
        clear hnew hD
        go_wp2_with (first
          | (go_at_call 22; refine CD.out.mono ?_; rintro e w6 ⟨rfl, hb6⟩; have HO8 := Kept.mk (own_below HO6.out hb6); have HB8 := Kept.mk (HB6.out.trans (hb6.mono HB6.out.size)); clear hb6)
          | (at_builtin; refine wpList_append_own _ rfl (.tmp 41) (.tmp 46) 29 rfl w.heap.size 9 i0' (.string ⟨#[]⟩) 1 16 Tryz.underlying29 hi hz0 hz1 hz2 rfl (by decide) _ _ _ (by rfl) (HO8.out.alloc _) ⟨w6.heap.size, 0, none⟩ 1 1 [.string (⟨#[105, 110, 116, 32]⟩ ++ D)] (by rfl) (by rfl) (cell_one_new _ _ _) (by intro u hu; simp at hu; subst hu; rfl) (by unfold maxLen; omega) (by omega) (by have := HB8.out.size; simp; omega) ?_; intro v' w7 hown7 hgrow7 _; have hb7 := Below.grown (HB8.out.alloc HB8.out.size _) hgrow7 (by have := HB8.out.size; simp; omega) (fun q hq => (HO8.out.lt q hq).1); have O7 := Kept.mk hown7; have B7 := Kept.mk hb7; clear hown7 hgrow7 hb7))
        go_roundw
        case rel => exact ⟨k + 1, by go_num, by omega, ⟨by rw [HTK.out, stC_append]; have h := O7.out; rw [HN.out] at h; exact h⟩, B7⟩
        case measure => simp [intOf]; omega
      have g2 : ((a : Int) == 2) = false := by simp; omega
      by_cases a3 : a = 3
      · subst a3
        obtain ⟨D, hD⟩ : ∃ D : ByteArray, (⟨(Pln.quoL tx).toArray⟩ : ByteArray) = D := ⟨_, rfl⟩
        have hDz : D.size ≤ 500000 := by have := quoL_len tx; rw [← hD, Lib.size_mk]; omega
        have hz : ¬ 9223372036854775807 < 7 + D.size := by omega
        have hnew : (.string (⟨#[115, 116, 114, 105, 110, 103, 32]⟩ ++ D) : Value) = .string ⟨(showL (3, b, nm, tx, n)).toArray⟩ := by
          rw [← hD, show (⟨#[115, 116, 114, 105, 110, 103, 32]⟩ : ByteArray) = ⟨([115, 116, 114, 105, 110, 103, 32] : List UInt8).toArray⟩ from rfl, catL]
          rfl
        have CD : Kept (Calls Tryz.prog 12 #[.string ⟨tx.toArray⟩] W1 fun e w' => e = .returned (.string D) ∧ Below W1.heap.size W1 w') := ⟨by rw [← hD]; exact refQuote_any ⟨tx.toArray⟩ W1 hs2⟩
        have HN := Kept.mk hnew
        clear hnew hD
        go_wp2_with (first
          | (go_at_call 12; refine CD.out.mono ?_; rintro e w6 ⟨rfl, hb6⟩; have HO8 := Kept.mk (own_below HO6.out hb6); have HB8 := Kept.mk (HB6.out.trans (hb6.mono HB6.out.size)); clear hb6)
          | (at_builtin; refine wpList_append_own _ rfl (.tmp 50) (.tmp 55) 29 rfl w.heap.size 9 i0' (.string ⟨#[]⟩) 1 16 Tryz.underlying29 hi hz0 hz1 hz2 rfl (by decide) _ _ _ (by rfl) (HO8.out.alloc _) ⟨w6.heap.size, 0, none⟩ 1 1 [.string (⟨#[115, 116, 114, 105, 110, 103, 32]⟩ ++ D)] (by rfl) (by rfl) (cell_one_new _ _ _) (by intro u hu; simp at hu; subst hu; rfl) (by unfold maxLen; omega) (by omega) (by have := HB8.out.size; simp; omega) ?_; intro v' w7 hown7 hgrow7 _; have hb7 := Below.grown (HB8.out.alloc HB8.out.size _) hgrow7 (by have := HB8.out.size; simp; omega) (fun q hq => (HO8.out.lt q hq).1); have O7 := Kept.mk hown7; have B7 := Kept.mk hb7; clear hown7 hgrow7 hb7))
        go_roundw
        case rel => exact ⟨k + 1, by go_num, by omega, ⟨by rw [HTK.out, stC_append]; have h := O7.out; rw [HN.out] at h; exact h⟩, B7⟩
        case measure => simp [intOf]; omega
      have g3 : ((a : Int) == 3) = false := by simp; omega
      by_cases a4 : a = 4
      · subst a4
        by_cases n1 : n = 1
        · subst n1
          have hsl : showL (4, b, nm, tx, 1) = [98, 111, 111, 108, 32, 116, 114, 117, 101] := rfl
          rw [hsl] at HTK
          clear hsl
          go_wp2_with (at_builtin; refine wpList_append_own _ rfl (.tmp 62) (.tmp 63) 29 rfl w.heap.size 9 i0' (.string ⟨#[]⟩) 1 16 Tryz.underlying29 hi hz0 hz1 hz2 rfl (by decide) _ _ _ (by rfl) (HO6.out.alloc _) ⟨W1.heap.size, 0, none⟩ 1 1 [.string ⟨#[98, 111, 111, 108, 32, 116, 114, 117, 101]⟩] (by rfl) (by rfl) (cell_one_new _ _ _) (by intro u hu; simp at hu; subst hu; rfl) (by unfold maxLen; omega) (by omega) (by have := HB6.out.size; simp; omega) ?_; intro v' w7 hown7 hgrow7 _; have hb7 := Below.grown (HB6.out.alloc HB6.out.size _) hgrow7 (by have := HB6.out.size; simp; omega) (fun q hq => (HO6.out.lt q hq).1); have O7 := Kept.mk hown7; have B7 := Kept.mk hb7; clear hown7 hgrow7 hb7)
          go_roundw
          case rel => exact ⟨k + 1, by go_num, by omega, ⟨by rw [HTK.out, stC_append]; exact O7.out⟩, B7⟩
          case measure => simp [intOf]; omega
        · have n2 : (n == 1) = false := by simp; omega
          have hsl : showL (4, b, nm, tx, n) = [98, 111, 111, 108, 32, 102, 97, 108, 115, 101] := by unfold showL; simp only [n2]; rfl
          rw [hsl] at HTK
          clear hsl
          go_wp2_with (at_builtin; refine wpList_append_own _ rfl (.tmp 65) (.tmp 66) 29 rfl w.heap.size 9 i0' (.string ⟨#[]⟩) 1 16 Tryz.underlying29 hi hz0 hz1 hz2 rfl (by decide) _ _ _ (by rfl) (HO6.out.alloc _) ⟨W1.heap.size, 0, none⟩ 1 1 [.string ⟨#[98, 111, 111, 108, 32, 102, 97, 108, 115, 101]⟩] (by rfl) (by rfl) (cell_one_new _ _ _) (by intro u hu; simp at hu; subst hu; rfl) (by unfold maxLen; omega) (by omega) (by have := HB6.out.size; simp; omega) ?_; intro v' w7 hown7 hgrow7 _; have hb7 := Below.grown (HB6.out.alloc HB6.out.size _) hgrow7 (by have := HB6.out.size; simp; omega) (fun q hq => (HO6.out.lt q hq).1); have O7 := Kept.mk hown7; have B7 := Kept.mk hb7; clear hown7 hgrow7 hb7)
          go_roundw
          case rel => exact ⟨k + 1, by go_num, by omega, ⟨by rw [HTK.out, stC_append]; exact O7.out⟩, B7⟩
          case measure => simp [intOf]; omega
      have g4 : ((a : Int) == 4) = false := by simp; omega
      have hsl : showL (a, b, nm, tx, n) = [110, 111, 110, 101] := by
        unfold showL
        split <;> first | rfl | (rename_i h; first | exact absurd h a1 | exact absurd h a2 | exact absurd h a3 | exact absurd h a4)
      rw [hsl] at HTK
      clear hsl
      go_wp2_with (at_builtin; refine wpList_append_own _ rfl (.tmp 18) (.tmp 19) 29 rfl w.heap.size 9 i0' (.string ⟨#[]⟩) 1 16 Tryz.underlying29 hi hz0 hz1 hz2 rfl (by decide) _ _ _ (by rfl) (HO6.out.alloc _) ⟨W1.heap.size, 0, none⟩ 1 1 [.string ⟨#[110, 111, 110, 101]⟩] (by rfl) (by rfl) (cell_one_new _ _ _) (by intro u hu; simp at hu; subst hu; rfl) (by unfold maxLen; omega) (by omega) (by have := HB6.out.size; simp; omega) ?_; intro v' w7 hown7 hgrow7 _; have hb7 := Below.grown (HB6.out.alloc HB6.out.size _) hgrow7 (by have := HB6.out.size; simp; omega) (fun q hq => (HO6.out.lt q hq).1); have O7 := Kept.mk hown7; have B7 := Kept.mk hb7; clear hown7 hgrow7 hb7)
      go_roundw
      case rel => exact ⟨k + 1, by go_num, by omega, ⟨by rw [HTK.out, stC_append]; exact O7.out⟩, B7⟩
      case measure => simp [intOf]; omega
    · obtain rfl : k = l.length := by omega
      have ho := HO.out
      rw [List.take_of_length_le (Nat.le_refl _)] at ho
      have HO2 := Kept.mk ho
      clear ho
      go_wp2
      go_ret
      exact ⟨_, rfl, HO2.out, HB.out⟩
end Go.Proofs.YtakccaldcolbmaaGreatDoor.Wln
