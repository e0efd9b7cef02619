/- The walk over KeyKeeps (chapter 04). -/
import Derived.Test.YtokphfpjgmmklaaDoorLentBytes
import Derived.Test.YtokphfpjgmmklaaDoorFlatBagBytes
import Derived.Test.YtokphfpjgmmklaaDoorKeyLaws
namespace Go.Proofs.YtokphfpjgmmklaaDoor.Wk
open Go Go.RowKit Go.Proofs.YtokphfpjgmmklaaDoor.Kb Go.Proofs.YtokphfpjgmmklaaDoor.Flt

/-- what a slice owns lies between two places -/
def Seg (v : Value) (a b : Nat) : Prop := ∀ g, v.ownBlock = some g → a ≤ g ∧ g < b
theorem far_seg {u v : Value} {a b c d : Nat} (hu : Seg u a b) (hv : Seg v c d) (h : b ≤ c ∨ d ≤ a) : Far u v := by
  unfold Far
  cases e : u.ownBlock with
  | none => exact .inl rfl
  | some g =>
    refine .inr fun e2 => ?_
    have h1 := hu g e
    have h2 := hv g e2.symm
    omega
theorem seg_own {w : World} {base : Nat} {e : TypeId} {s n : Nat} {v : Value} {xs : List Value} (h : w.ownsRow base e s v n xs) : Seg v base w.heap.size := fun g hg => h.lt g hg
/-- a slice of the call's own that holds these bytes -/
def Ow (w : World) (B : Nat) (A : Option Addr) (n c : Nat) (l : List UInt8) : Prop := w.ownsRow B 5 1 (.slice A n c) n (bc l)
theorem ow_below {w w1 : World} {B n c : Nat} {A : Option Addr} {l : List UInt8} (h : Ow w B A n c l) (hb : Below w.heap.size w w1) : Ow w1 B A n c l := Flt.own_below h hb
theorem ow_made {w w' : World} {l : List UInt8} {e : Ending} (h : Made w l e w') : ∃ A c, e = .returned (.slice A l.length c) ∧ Ow w' w.heap.size A l.length c l ∧ Below w.heap.size w w' := by
  obtain ⟨v, rfl, ho, hb⟩ := h
  obtain ⟨A, c, rfl, _⟩ := own_shape ho
  exact ⟨A, c, rfl, ho, hb⟩
theorem ow_got {w w' : World} {r : Option (List UInt8 × Nat)} {e : Ending} (h : Got w r e w') : ∃ A c, e = .returned (.tuple #[.slice A ((r.map (·.1)).getD []).length c, .int .i64 (((r.map (·.2)).getD 0 : Nat) : Int), .bool r.isSome]) ∧ Ow w' w.heap.size A ((r.map (·.1)).getD []).length c ((r.map (·.1)).getD []) ∧ Below w.heap.size w w' := by
  cases r with
  | none => exact ⟨none, 0, h.1, World.ownsRow_nil _ _ _ _, h.2⟩
  | some x =>
    obtain ⟨v, rfl, ho, hb⟩ := h
    obtain ⟨A, c, rfl, _⟩ := own_shape ho
    exact ⟨A, c, rfl, ho, hb⟩
theorem ow_over {w w1 : World} {G B n c : Nat} {A : Option Addr} {l : List UInt8} (h : Ow w B A n c l) (hg : w.grownBy w1 (some G)) (hB : G < B) : Ow w1 B A n c l :=
  h.kept hg (by
    cases hv : (Value.slice A n c).ownBlock with
    | none => exact .inl rfl
    | some b =>
      have := (h.lt b hv).1
      exact .inr (by simp only [ne_eq, Option.some.injEq]; omega))
theorem rd_ow {w : World} {B n c : Nat} {A : Option Addr} {l : List UInt8} (h : Ow w B A n c l) : Rd w A l := rd_of_own h
set_option maxRecDepth 100000 in
set_option maxHeartbeats 4000000 in
theorem law_keeps (n : Int) (A : Option Addr) (l : List UInt8) (c : Nat) (w : World) (ht : Env w) (hr : Rd w A l) (hc : A = none → c = 0) (h0 : -9223372036854775808 ≤ n) (h1 : n ≤ 9223372036854775807) :
    Calls Tryd.prog 6 #[.int .i64 n, .slice A l.length c] w fun e w' => e = .returned (.bool true) ∧ Below w.heap.size w w' := by
  have HT := Kept.mk ht
  clear ht
  by_cases hbig : 20000 < l.length
  · clear hr hc
    go_enter Tryd.func6, Tryd.ntmps6
    go_wp2_with (fail)
    refine (awake_any w HT.out).mono ?_; rintro e w1 ⟨rfl, hb1⟩
    go_wp2_with (fail)
    go_ret
    exact ⟨rfl, hb1⟩
  have HR := Kept.mk hr
  have HC := Kept.mk hc
  have hlen := Pk.putL_length l
  have hgl : (((Pk.getL l).map (·.1)).getD []).length ≤ 20000 := by
    cases hg : Pk.getL l with
    | none => simp
    | some x => have := Pk.getL_len l.length l (Nat.le_refl _) x hg; simp; omega
  have gI : ∀ wx A c, Rd wx A l → Calls Tryd.prog 16 #[.slice A l.length c] wx _ := fun wx A c hx => (getBytes_any A l c wx hx (by omega)).mono fun _ _ h => ow_got h
  have gR : ∀ wx, Rd wx A l → Calls Tryd.prog 17 #[.slice A l.length c] wx _ := fun wx hx => (refGetBytes_any A l c wx hx (by omega)).mono fun _ _ h => ow_got h
  have pI : ∀ wx A c, Rd wx A l → Calls Tryd.prog 18 #[.slice A l.length c] wx _ := fun wx A c hx => (putBytes_any A l c wx hx (by omega)).mono fun _ _ h => ow_made h
  have pR : ∀ wx, Rd wx A l → Calls Tryd.prog 19 #[.slice A l.length c] wx _ := fun wx hx => (refPutBytes_any A l c wx hx (by omega)).mono fun _ _ h => ow_made h
  have iP : ∀ wx, Calls Tryd.prog 14 #[.int .i64 n] wx _ := fun wx => (putInt_any n wx h0 h1).mono fun _ _ h => ow_made h
  have hil : (Pk.putInt n).length = 8 := by unfold Pk.putInt Pk.u8L; rfl
  generalize ((Pk.getL l).map (·.1)).getD [] = g at gI gR hgl
  generalize ((Pk.getL l).map (·.2)).getD 0 = kk at gI gR
  generalize (Pk.getL l).isSome = z at gI gR
  generalize Pk.putL l = p at pI pR hlen
  generalize Pk.putInt n = q at iP hil
  rw [hil] at iP
  have GI := Kept.mk gI
  have GR := Kept.mk gR
  have PI := Kept.mk pI
  have PR := Kept.mk pR
  have IP := Kept.mk iP
  have HQ := Kept.mk hil
  clear gI gR pI pR iP hr hc hil
  go_enter Tryd.func6, Tryd.ntmps6
  go_wp2_with (fail)
  refine (lentBytes_any A l c w HR.out HC.out (by omega)).mono ?_; rintro e w1 ⟨rfl, ho1, hb1⟩
  have O1 := Kept.mk ho1
  have B1 := Kept.mk hb1
  have s1 : w.heap.size < w1.heap.size := (ho1.lt _ rfl).2
  clear ho1 hb1
  go_wp2_with (fail)
  refine (PI.out w1 _ _ (rd_lent O1.out)).mono ?_; rintro e w2 ⟨A2, c2, rfl, ho, hb⟩
  have O2 := Kept.mk (Flt.own_below O1.out hb)
  have B2 := Kept.mk (B1.out.trans (hb.mono B1.out.size))
  have s2 := hb.size
  have P2 := Kept.mk ho
  have SP := Kept.mk (seg_own ho)
  clear ho hb
  go_wp2_with (fail)
  refine (PI.out w2 _ _ (rd_lent O2.out)).mono ?_; rintro e w3 ⟨A3, c3, rfl, ho, hb⟩
  have O3 := Kept.mk (Flt.own_below O2.out hb)
  have P3 := Kept.mk (ow_below P2.out hb)
  have B3 := Kept.mk (B2.out.trans (hb.mono B2.out.size))
  have s3 := hb.size
  have Q3 := Kept.mk ho
  have SQ := Kept.mk (seg_own ho)
  clear ho hb
  go_wp2_with (fail)
  refine (GI.out w3 _ _ (rd_lent O3.out)).mono ?_; rintro e w4 ⟨A4, c4, rfl, ho, hb⟩
  have O4 := Kept.mk (Flt.own_below O3.out hb)
  have P4 := Kept.mk (ow_below P3.out hb)
  have Q4 := Kept.mk (ow_below Q3.out hb)
  have B4 := Kept.mk (B3.out.trans (hb.mono B3.out.size))
  have s4 := hb.size
  have X4 := Kept.mk ho
  have SX := Kept.mk (seg_own ho)
  clear ho hb
  go_wp2_with (fail)
  refine (GI.out w4 _ _ (rd_lent O4.out)).mono ?_; rintro e w5 ⟨A5, c5, rfl, ho, hb⟩
  have O5 := Kept.mk (Flt.own_below O4.out hb)
  have P5 := Kept.mk (ow_below P4.out hb)
  have Q5 := Kept.mk (ow_below Q4.out hb)
  have X5 := Kept.mk (ow_below X4.out hb)
  have B5 := Kept.mk (B4.out.trans (hb.mono B4.out.size))
  have s5 := hb.size
  have Y5 := Kept.mk ho
  have SY := Kept.mk (seg_own ho)
  clear ho hb
  go_wp2_with (fail)
  refine (getInt_any _ l _ w5 (rd_lent O5.out) (by omega)).mono ?_; rintro e w6 ⟨rfl, hb⟩
  have O6 := Kept.mk (Flt.own_below O5.out hb)
  have P6 := Kept.mk (ow_below P5.out hb)
  have Q6 := Kept.mk (ow_below Q5.out hb)
  have X6 := Kept.mk (ow_below X5.out hb)
  have Y6 := Kept.mk (ow_below Y5.out hb)
  have B6 := Kept.mk (B5.out.trans (hb.mono B5.out.size))
  have s6 := hb.size
  clear hb
  go_wp2_with (fail)
  refine (keptBytes_any _ A l c w6 O6.out (HR.out.below B6.out) (by omega)).mono ?_; rintro e w7 ⟨rfl, hb⟩
  have O7 := Kept.mk (Flt.own_below O6.out hb)
  have P7 := Kept.mk (ow_below P6.out hb)
  have Q7 := Kept.mk (ow_below Q6.out hb)
  have X7 := Kept.mk (ow_below X6.out hb)
  have Y7 := Kept.mk (ow_below Y6.out hb)
  have B7 := Kept.mk (B6.out.trans (hb.mono B6.out.size))
  have s7 := hb.size
  clear hb
  go_wp2_with (fail)
  refine (overBytes_any _ l _ w7 O7.out (by omega)).mono ?_; rintro e w8 ⟨rfl, hg⟩
  have P8 := Kept.mk (ow_over P7.out hg (by omega))
  have Q8 := Kept.mk (ow_over Q7.out hg (by omega))
  have X8 := Kept.mk (ow_over X7.out hg (by omega))
  have Y8 := Kept.mk (ow_over Y7.out hg (by omega))
  have B8 : Kept (Below w.heap.size w w8) := ⟨Below.grown B7.out hg B7.out.size (fun b hb => by cases hb; exact Nat.le_refl _)⟩
  have s8 := hg.size
  clear hg O7
  go_wp2_with (fail)
  refine (GR.out w8 (HR.out.below B8.out)).mono ?_; rintro e w9 ⟨A9, c9, rfl, ho, hb⟩
  have P9 := Kept.mk (ow_below P8.out hb)
  have Q9 := Kept.mk (ow_below Q8.out hb)
  have X9 := Kept.mk (ow_below X8.out hb)
  have Y9 := Kept.mk (ow_below Y8.out hb)
  have B9 := Kept.mk (B8.out.trans (hb.mono B8.out.size))
  have s9 := hb.size
  have W9 := Kept.mk ho
  clear ho hb
  go_wp2_with (fail)
  refine (PR.out w9 (HR.out.below B9.out)).mono ?_; rintro e w10 ⟨A10, c10, rfl, ho, hb⟩
  have P10 := Kept.mk (ow_below P9.out hb)
  have Q10 := Kept.mk (ow_below Q9.out hb)
  have X10 := Kept.mk (ow_below X9.out hb)
  have Y10 := Kept.mk (ow_below Y9.out hb)
  have W10 := Kept.mk (ow_below W9.out hb)
  have B10 := Kept.mk (B9.out.trans (hb.mono B9.out.size))
  have s10 := hb.size
  have R10 := Kept.mk ho
  clear ho hb
  go_wp2_with (fail)
  refine (same_yes _ _ p p.length _ _ w10 (rd_ow P10.out) (rd_ow R10.out) rfl (by omega)).mono ?_; rintro e w11 ⟨rfl, hb⟩
  have P11 := Kept.mk (ow_below P10.out hb)
  have Q11 := Kept.mk (ow_below Q10.out hb)
  have X11 := Kept.mk (ow_below X10.out hb)
  have Y11 := Kept.mk (ow_below Y10.out hb)
  have W11 := Kept.mk (ow_below W10.out hb)
  have B11 := Kept.mk (B10.out.trans (hb.mono B10.out.size))
  have s11 := hb.size
  clear hb
  go_wp2_with (fail)
  refine (same_yes _ _ g g.length _ _ w11 (rd_ow X11.out) (rd_ow W11.out) rfl (by omega)).mono ?_; rintro e w12 ⟨rfl, hb⟩
  have P12 := Kept.mk (ow_below P11.out hb)
  have Q12 := Kept.mk (ow_below Q11.out hb)
  have X12 := Kept.mk (ow_below X11.out hb)
  have Y12 := Kept.mk (ow_below Y11.out hb)
  have B12 := Kept.mk (B11.out.trans (hb.mono B11.out.size))
  have s12 := hb.size
  clear hb
  go_wp2_with (fail)
  refine (IP.out w12).mono ?_; rintro e w13 ⟨A13, c13, rfl, ho, hb⟩
  have P13 := Kept.mk (ow_below P12.out hb)
  have Q13 := Kept.mk (ow_below Q12.out hb)
  have X13 := Kept.mk (ow_below X12.out hb)
  have Y13 := Kept.mk (ow_below Y12.out hb)
  have B13 := Kept.mk (B12.out.trans (hb.mono B12.out.size))
  have s13 := hb.size
  have I13 := Kept.mk ho
  have SI := Kept.mk (seg_own ho)
  clear ho hb
  go_wp2_with (fail)
  refine (IP.out w13).mono ?_; rintro e w14 ⟨A14, c14, rfl, ho, hb⟩
  have P14 := Kept.mk (ow_below P13.out hb)
  have Q14 := Kept.mk (ow_below Q13.out hb)
  have X14 := Kept.mk (ow_below X13.out hb)
  have Y14 := Kept.mk (ow_below Y13.out hb)
  have I14 := Kept.mk (ow_below I13.out hb)
  have B14 := Kept.mk (B13.out.trans (hb.mono B13.out.size))
  have s14 := hb.size
  have J14 := Kept.mk ho
  have SJ := Kept.mk (seg_own ho)
  clear ho hb
  go_wp2_with (fail)
  have hz : Below w14.heap.size w14 (w14.alloc (.cells #[.slice A2 p.length c2, .slice A3 p.length c3, .slice A4 g.length c4, .slice A5 g.length c5, .slice A13 8 c13, .slice A14 8 c14] 22)) := (Below.refl _ _).alloc (Nat.le_refl _) _
  have P15 := Kept.mk (ow_below P14.out hz)
  have Q15 := Kept.mk (ow_below Q14.out hz)
  have X15 := Kept.mk (ow_below X14.out hz)
  have Y15 := Kept.mk (ow_below Y14.out hz)
  have I15 := Kept.mk (ow_below I14.out hz)
  have J15 := Kept.mk (ow_below J14.out hz)
  have B15 := Kept.mk (B14.out.trans (hz.mono B14.out.size))
  have hA := Flt.apartBytesList_any w.heap.size 6 w14.heap.size 6 [.slice A2 p.length c2, .slice A3 p.length c3, .slice A4 g.length c4, .slice A5 g.length c5, .slice A13 8 c13, .slice A14 8 c14] (fun j => [p.length, p.length, g.length, g.length, 8, 8].getD j 0) (fun j => [bc p, bc p, bc g, bc g, bc q, bc q].getD j []) (w14.alloc (.cells #[.slice A2 p.length c2, .slice A3 p.length c3, .slice A4 g.length c4, .slice A5 g.length c5, .slice A13 8 c13, .slice A14 8 c14] 22)) (by omega) (by omega) rfl
    (fun j => by
      match j with
      | 0 => show p.length ≤ _; omega
      | 1 => show p.length ≤ _; omega
      | 2 => show g.length ≤ _; omega
      | 3 => show g.length ≤ _; omega
      | 4 => show 8 ≤ _; omega
      | 5 => show 8 ≤ _; omega
      | j + 6 => exact Nat.zero_le _)
    B15.out.size
    (fun j v hv => by rw [World.cell?_alloc_new, ← Array.getElem?_toList]; exact hv)
    (fun j v hv => by
      match j, hv with
      | 0, hv => cases hv; exact Flt.own_low P15.out (by omega)
      | 1, hv => cases hv; exact Flt.own_low Q15.out (by omega)
      | 2, hv => cases hv; exact Flt.own_low X15.out (by omega)
      | 3, hv => cases hv; exact Flt.own_low Y15.out (by omega)
      | 4, hv => cases hv; exact Flt.own_low I15.out (by omega)
      | 5, hv => cases hv; exact Flt.own_low J15.out (by omega)
      | j + 6, hv => simp at hv)
    (fun j k u v hjk hu hv => by
      match j, k, hu, hv, hjk with
      | 0, 0, _, _, h => exact absurd rfl h
      | 0, 1, hu, hv, _ => cases hu; cases hv; exact far_seg SP.out SQ.out (by omega)
      | 0, 2, hu, hv, _ => cases hu; cases hv; exact far_seg SP.out SX.out (by omega)
      | 0, 3, hu, hv, _ => cases hu; cases hv; exact far_seg SP.out SY.out (by omega)
      | 0, 4, hu, hv, _ => cases hu; cases hv; exact far_seg SP.out SI.out (by omega)
      | 0, 5, hu, hv, _ => cases hu; cases hv; exact far_seg SP.out SJ.out (by omega)
      | 1, 0, hu, hv, _ => cases hu; cases hv; exact far_seg SQ.out SP.out (by omega)
      | 1, 1, _, _, h => exact absurd rfl h
      | 1, 2, hu, hv, _ => cases hu; cases hv; exact far_seg SQ.out SX.out (by omega)
      | 1, 3, hu, hv, _ => cases hu; cases hv; exact far_seg SQ.out SY.out (by omega)
      | 1, 4, hu, hv, _ => cases hu; cases hv; exact far_seg SQ.out SI.out (by omega)
      | 1, 5, hu, hv, _ => cases hu; cases hv; exact far_seg SQ.out SJ.out (by omega)
      | 2, 0, hu, hv, _ => cases hu; cases hv; exact far_seg SX.out SP.out (by omega)
      | 2, 1, hu, hv, _ => cases hu; cases hv; exact far_seg SX.out SQ.out (by omega)
      | 2, 2, _, _, h => exact absurd rfl h
      | 2, 3, hu, hv, _ => cases hu; cases hv; exact far_seg SX.out SY.out (by omega)
      | 2, 4, hu, hv, _ => cases hu; cases hv; exact far_seg SX.out SI.out (by omega)
      | 2, 5, hu, hv, _ => cases hu; cases hv; exact far_seg SX.out SJ.out (by omega)
      | 3, 0, hu, hv, _ => cases hu; cases hv; exact far_seg SY.out SP.out (by omega)
      | 3, 1, hu, hv, _ => cases hu; cases hv; exact far_seg SY.out SQ.out (by omega)
      | 3, 2, hu, hv, _ => cases hu; cases hv; exact far_seg SY.out SX.out (by omega)
      | 3, 3, _, _, h => exact absurd rfl h
      | 3, 4, hu, hv, _ => cases hu; cases hv; exact far_seg SY.out SI.out (by omega)
      | 3, 5, hu, hv, _ => cases hu; cases hv; exact far_seg SY.out SJ.out (by omega)
      | 4, 0, hu, hv, _ => cases hu; cases hv; exact far_seg SI.out SP.out (by omega)
      | 4, 1, hu, hv, _ => cases hu; cases hv; exact far_seg SI.out SQ.out (by omega)
      | 4, 2, hu, hv, _ => cases hu; cases hv; exact far_seg SI.out SX.out (by omega)
      | 4, 3, hu, hv, _ => cases hu; cases hv; exact far_seg SI.out SY.out (by omega)
      | 4, 4, _, _, h => exact absurd rfl h
      | 4, 5, hu, hv, _ => cases hu; cases hv; exact far_seg SI.out SJ.out (by omega)
      | 5, 0, hu, hv, _ => cases hu; cases hv; exact far_seg SJ.out SP.out (by omega)
      | 5, 1, hu, hv, _ => cases hu; cases hv; exact far_seg SJ.out SQ.out (by omega)
      | 5, 2, hu, hv, _ => cases hu; cases hv; exact far_seg SJ.out SX.out (by omega)
      | 5, 3, hu, hv, _ => cases hu; cases hv; exact far_seg SJ.out SY.out (by omega)
      | 5, 4, hu, hv, _ => cases hu; cases hv; exact far_seg SJ.out SI.out (by omega)
      | 5, 5, _, _, h => exact absurd rfl h
      | 0, k + 6, _, hv, _ => simp at hv
      | 1, k + 6, _, hv, _ => simp at hv
      | 2, k + 6, _, hv, _ => simp at hv
      | 3, k + 6, _, hv, _ => simp at hv
      | 4, k + 6, _, hv, _ => simp at hv
      | 5, k + 6, _, hv, _ => simp at hv
      | j + 6, _, hu, _, _ => simp at hu)
  refine hA.mono ?_; rintro e w16 ⟨rfl, hb⟩
  have B16 := Kept.mk (B15.out.trans hb)
  clear hb hA hz
  go_wp2_with (fail)
  refine (awake_any _ (HT.out.below B16.out)).mono ?_; rintro e w17 ⟨rfl, hb⟩
  have B17 := Kept.mk (B16.out.trans (hb.mono B16.out.size))
  clear hb
  go_wp2_with (fail)
  go_ret
  exact ⟨rfl, B17.out⟩
end Go.Proofs.YtokphfpjgmmklaaDoor.Wk
