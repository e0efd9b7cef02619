/- The walks over KeyInts and KeyRows. -/
import Derived.Test.YtokphfpjgmmklaaDoorKeyAwake
namespace Go.Proofs.YtokphfpjgmmklaaDoor.Wk
open Go Go.RowKit Go.Proofs.YtokphfpjgmmklaaDoor.Kb

theorem putInt_slice (n : Int) (w : World) (h0 : -9223372036854775808 ≤ n) (h1 : n ≤ 9223372036854775807) :
    Calls Tryd.prog 14 #[.int .i64 n] w fun e w' => ∃ A c, e = .returned (.slice A 8 c) ∧ Rd w' A (Pk.putInt n) ∧ Below w.heap.size w w' :=
  (putInt_any n w h0 h1).mono fun _ _ h => slice_of_made h
theorem refPutInt_slice (n : Int) (w : World) (h0 : -9223372036854775808 ≤ n) (h1 : n ≤ 9223372036854775807) :
    Calls Tryd.prog 15 #[.int .i64 n] w fun e w' => ∃ A c, e = .returned (.slice A 8 c) ∧ Rd w' A (Pk.putInt n) ∧ Below w.heap.size w w' :=
  (refPutInt_any n w h0 h1).mono fun _ _ h => slice_of_made h
theorem same_yes (A A' : Option Addr) (l : List UInt8) (n c c' : Nat) (w : World) (hr : Rd w A l) (hr' : Rd w A' l) (hn : l.length = n) (hl : n ≤ 140737488355328) :
    Calls Tryd.prog 13 #[.slice A n c, .slice A' n c'] w fun e w' => e = .returned (.bool true) ∧ Below w.heap.size w w' := by
  subst hn
  have h := same_any A A' l l c c' w hr hr' hl
  rw [decide_eq_true rfl] at h
  exact h
set_option maxRecDepth 100000 in
set_option maxHeartbeats 2000000 in
theorem law_ints (n : Int) (A : Option Addr) (l : List UInt8) (c : Nat) (w : World) (ht : Env w) (hr : Rd w A l) (hl : l.length ≤ 140737488355328) (h0 : -9223372036854775808 ≤ n) (h1 : n ≤ 9223372036854775807) :
    Calls Tryd.prog 3 #[.int .i64 n, .slice A l.length c] w fun e w' => e = .returned (.bool true) ∧ Below w.heap.size w w' := by
  have HT := Kept.mk ht
  clear ht
  by_cases hbig : 20000 < l.length
  · clear hr
    go_enter Tryd.func3, Tryd.ntmps3
    go_wp2_with (fail)
    refine (awake_any w HT.out).mono ?_; rintro e w1 ⟨rfl, hb1⟩
    go_wp2_with (fail)
    go_ret
    exact ⟨rfl, hb1⟩
  have HR := Kept.mk hr
  have gI := fun wx (hx : Rd wx A l) => getInt_any A l c wx hx hl
  have gR := fun wx (hx : Rd wx A l) => refGetInt_any A l c wx hx hl
  generalize (getI l).1 = x at gI gR
  generalize (getI l).2 = y at gI gR
  generalize decide (8 ≤ l.length) = z at gI gR
  have GI := Kept.mk gI
  have GR := Kept.mk gR
  clear gI gR hr
  go_enter Tryd.func3, Tryd.ntmps3
  go_wp2_with (fail)
  refine (GI.out _ HR.out).mono ?_; rintro e w1 ⟨rfl, hb1⟩
  go_wp2_with (fail)
  refine (GR.out _ (HR.out.below hb1)).mono ?_; rintro e w2 ⟨rfl, hb2⟩
  have g2 := hb1.trans (hb2.mono hb1.size)
  clear hb1 hb2
  go_wp2_with (fail)
  refine (putInt_slice n _ h0 h1).mono ?_; rintro e w3 ⟨A3, c3, rfl, hr3, hb3⟩
  have R3 := Kept.mk hr3
  have g3 := g2.trans (hb3.mono g2.size)
  clear hb3 g2 hr3
  go_wp2_with (fail)
  refine (refPutInt_slice n _ h0 h1).mono ?_; rintro e w4 ⟨A4, c4, rfl, hr4, hb4⟩
  have R4 := Kept.mk hr4
  have R3' := Kept.mk (R3.out.below hb4)
  have g4 := g3.trans (hb4.mono g3.size)
  clear hb4 g3 hr4 R3
  go_wp2_with (fail)
  refine (same_yes A3 A4 (Pk.putInt n) 8 c3 c4 _ R3'.out R4.out rfl (by decide)).mono ?_; rintro e w5 ⟨rfl, hb5⟩
  have g5 := g4.trans (hb5.mono g4.size)
  clear hb5 g4
  go_wp2_with (fail)
  refine (awake_any _ (HT.out.below g5)).mono ?_; rintro e w6 ⟨rfl, hb6⟩
  have g6 := g5.trans (hb6.mono g5.size)
  clear hb6 g5
  go_wp2_with (fail)
  go_ret
  exact ⟨rfl, g6⟩
set_option maxRecDepth 100000 in
set_option maxHeartbeats 2000000 in
theorem law_rows (A : Option Addr) (l : List UInt8) (c : Nat) (w : World) (ht : Env w) (hr : Rd w A l) (hl : l.length ≤ 140737488355328) :
    Calls Tryd.prog 4 #[.slice A l.length c] w fun e w' => e = .returned (.bool true) ∧ Below w.heap.size w w' := by
  have HT := Kept.mk ht
  clear ht
  by_cases hbig : 20000 < l.length
  · clear hr
    go_enter Tryd.func4, Tryd.ntmps4
    go_wp2_with (fail)
    refine (awake_any w HT.out).mono ?_; rintro e w1 ⟨rfl, hb1⟩
    go_wp2_with (fail)
    go_ret
    exact ⟨rfl, hb1⟩
  have HR := Kept.mk hr
  have hlen := Pk.putL_length l
  have gI : ∀ wx, Rd wx A l → Calls Tryd.prog 16 #[.slice A l.length c] wx (Got' wx (Pk.getL l)) := fun wx hx => (getBytes_any A l c wx hx (by omega)).mono fun _ _ h => got_shape h
  have gR : ∀ wx, Rd wx A l → Calls Tryd.prog 17 #[.slice A l.length c] wx (Got' wx (Pk.getL l)) := fun wx hx => (refGetBytes_any A l c wx hx (by omega)).mono fun _ _ h => got_shape h
  have pI : ∀ wx, Rd wx A l → Calls Tryd.prog 18 #[.slice A l.length c] wx (Slice wx (Pk.putL l)) := fun wx hx => (putBytes_any A l c wx hx (by omega)).mono fun _ _ h => slice_of_made h
  have pR : ∀ wx, Rd wx A l → Calls Tryd.prog 19 #[.slice A l.length c] wx (Slice wx (Pk.putL l)) := fun wx hx => (refPutBytes_any A l c wx hx (by omega)).mono fun _ _ h => slice_of_made h
  have hgl : (((Pk.getL l).map (·.1)).getD []).length ≤ 20000 := by
    cases hg : Pk.getL l with
    | none => simp
    | some x => have := Pk.getL_len l.length l (Nat.le_refl _) x hg; simp; omega
  unfold Got' at gI gR
  generalize ((Pk.getL l).map (·.1)).getD [] = g at gI gR hgl
  generalize ((Pk.getL l).map (·.2)).getD 0 = k at gI gR
  generalize (Pk.getL l).isSome = z at gI gR
  generalize Pk.putL l = p at pI pR hlen
  have GI := Kept.mk gI
  have GR := Kept.mk gR
  have PI := Kept.mk pI
  have PR := Kept.mk pR
  clear gI gR pI pR hr
  go_enter Tryd.func4, Tryd.ntmps4
  go_wp2_with (fail)
  refine (GI.out _ HR.out).mono ?_; rintro e w1 ⟨A1, c1, rfl, hr1, hb1⟩
  have R1 := Kept.mk hr1
  clear hr1
  go_wp2_with (fail)
  refine (GR.out _ (HR.out.below hb1)).mono ?_; rintro e w2 ⟨A2, c2, rfl, hr2, hb2⟩
  have R2 := Kept.mk hr2
  have R1' := Kept.mk (R1.out.below hb2)
  have g2 := hb1.trans (hb2.mono hb1.size)
  clear hb1 hb2 hr2 R1
  go_wp2_with (fail)
  refine (PI.out _ (HR.out.below g2)).mono ?_; rintro e w3 ⟨A3, c3, rfl, hr3, hb3⟩
  have R3 := Kept.mk hr3
  have S1 := Kept.mk (R1'.out.below hb3)
  have S2 := Kept.mk (R2.out.below hb3)
  have g3 := g2.trans (hb3.mono g2.size)
  clear hb3 g2 hr3 R1' R2
  go_wp2_with (fail)
  refine (PR.out _ (HR.out.below g3)).mono ?_; rintro e w4 ⟨A4, c4, rfl, hr4, hb4⟩
  have R4 := Kept.mk hr4
  have R3' := Kept.mk (R3.out.below hb4)
  have T1 := Kept.mk (S1.out.below hb4)
  have T2 := Kept.mk (S2.out.below hb4)
  have g4 := g3.trans (hb4.mono g3.size)
  clear hb4 g3 hr4 R3 S1 S2
  go_wp2_with (fail)
  refine (same_yes A3 A4 p p.length c3 c4 _ R3'.out R4.out rfl (by omega)).mono ?_; rintro e w5 ⟨rfl, hb5⟩
  have U1 := Kept.mk (T1.out.below hb5)
  have U2 := Kept.mk (T2.out.below hb5)
  have g5 := g4.trans (hb5.mono g4.size)
  clear hb5 g4 T1 T2
  go_wp2_with (fail)
  refine (same_yes A1 A2 g g.length c1 c2 _ U1.out U2.out rfl (by omega)).mono ?_; rintro e w6 ⟨rfl, hb6⟩
  have g6 := g5.trans (hb6.mono g5.size)
  clear hb6 g5
  go_wp2_with (fail)
  refine (awake_any _ (HT.out.below g6)).mono ?_; rintro e w7 ⟨rfl, hb7⟩
  have g7 := g6.trans (hb7.mono g6.size)
  clear hb7 g6
  go_wp2_with (fail)
  go_ret
  exact ⟨rfl, g7⟩
end Go.Proofs.YtokphfpjgmmklaaDoor.Wk
