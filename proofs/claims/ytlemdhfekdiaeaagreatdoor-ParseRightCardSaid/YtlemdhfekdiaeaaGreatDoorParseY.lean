/- The program's parser: its text is written; markup. -/
import Derived.Test.YtlemdhfekdiaeaaGreatDoorParseX
import Derived.RegionDies
namespace Go.Proofs.YtlemdhfekdiaeaaGreatDoor.Wps
open Go Go.RowKit Go.Proofs.YtlemdhfekdiaeaaGreatDoor.Kb Go.Proofs.YtlemdhfekdiaeaaGreatDoor.Wch Go.Proofs.YtlemdhfekdiaeaaGreatDoor.Emk

theorem lies_par (s : ByteArray) (k : Nat) (nv : Value) (st : Ppa.St) : liesAt Tryz.prog Tryz.prog.depth 45 (((preS s k nv).length + 2 + (postS st).length) / Tryz.prog.cellsOf 45) (preS s k nv).length 43 1 = true := by
  show liesAt Tryz.prog Tryz.prog.depth 45 ((3 + 2 + 2) / Tryz.prog.cellsOf 45) 3 43 1 = true
  kernel_rfl
section
variable {B b : Nat} {s : ByteArray} {st : Ppa.St} {r : Ppa.Bs} {w w' : World}
theorem Ps.write (h : Ps B b s st r w) {A : Option Addr} {c : Nat} {p v : Value} (X : Px B b s st (s.size - r.length) A c p v w) {acc : Ppa.Bs} (hI : Is 45 (preS s (s.size - r.length) (.slice A st.nodes.length c)) (postS st) B b acc w') (hb : Below B w w') (hk : Lib.OthersKept 5 (some b) w w') : Ps B b s { st with text := acc } r w' :=
  ⟨⟨A, c, hI, nds_kept X.nds X.ndsn hk⟩, h.suf, h.ev.below hb, h.le, h.small⟩
theorem write_t (v : Ppa.Bs) (h : Ps B b s st r w) (hl : st.text.length + v.length ≤ 1000000) :
    Calls Tryz.prog 29 #[.pointer (some ⟨b, 3, none⟩), .string ⟨v.toArray⟩] w fun e w' => (∃ n : Int, e = .returned (.tuple #[.int .i64 n, .nilIface])) ∧ Ps B b s { st with text := st.text ++ v } r w' ∧ Bel B b w w' := by
  obtain ⟨A, c, p, q, X⟩ := h.px
  have h1 := write_any ⟨v.toArray⟩ (by decide) h.le X.is (lies_par s _ _ st) (by rw [Lib.size_mk]; omega)
  exact h1.mono fun e w' ⟨he, hI, hb, hk⟩ => ⟨⟨_, he⟩, h.write X hI hb hk, Bel.others hb hk⟩
theorem byte_t (x : UInt8) (h : Ps B b s st r w) (hl : st.text.length ≤ 1000000) :
    Calls Tryz.prog 97 #[.pointer (some ⟨b, 3, none⟩), .int .u8 (x.toNat : Int)] w fun e w' => e = .returned .nilIface ∧ Ps B b s { st with text := st.text ++ [x] } r w' ∧ Bel B b w w' := by
  obtain ⟨A, c, p, q, X⟩ := h.px
  have h1 := byte_any x (by decide) h.le X.is (lies_par s _ _ st) (by omega)
  exact h1.mono fun e w' ⟨he, hI, hb, hk⟩ => ⟨he, h.write X hI hb hk, Bel.others hb hk⟩
theorem rune_t (x : Int) (h0 : -2147483648 ≤ x) (h1 : x ≤ 2147483647) (h : Ps B b s st r w) (hl : st.text.length ≤ 1000000) :
    Calls Tryz.prog 95 #[.pointer (some ⟨b, 3, none⟩), .int .i32 x] w fun e w' => (∃ n : Int, e = .returned (.tuple #[.int .i64 n, .nilIface])) ∧ Ps B b s { st with text := st.text ++ Lib.encodeRune x } r w' ∧ Bel B b w w' := by
  obtain ⟨A, c, p, q, X⟩ := h.px
  have h1 := rune_any x h0 h1 (by decide) h.le X.is (lies_par s _ _ st) (by omega)
  exact h1.mono fun e w' ⟨he, hI, hb, hk⟩ => ⟨he, h.write X hI hb hk, Bel.others hb hk⟩
end
/-- what markup is read as, at so much fuel -/
def MarkC (B b : Nat) (s : ByteArray) (f : Nat) : Prop := ∀ (p : Int) (d : Nat) (st : Ppa.St) (r : Ppa.Bs) (w : World) (o : Except Ppa.Bs (Ppa.Bs × Ppa.St)), Ps B b s st r w → Ppa.meas st r ≤ 300000 → Pch.textsL r = true → d + r.length + 1 ≤ 100000 → 1 ≤ s.size - r.length → Ppa.markF s.size f p d r st = some o →
  Calls Tryz.prog 94 #[.pointer (some ⟨b, 0, none⟩), .int .i64 p, .int .i64 (d : Int)] w fun e w' => WaysS B b s w (.tuple #[]) o e w'
/-- a cdata, behind its <! -/
def cdataM (t : Ppa.Bs) (s : Ppa.St) : Except Ppa.Bs (Ppa.Bs × Ppa.St) := match Ppa.mustL [91, 67, 68, 65, 84, 65, 91] t with
      | .error r1 => .error r1
      | .ok r1 => match Ppa.untilR [93, 93, 62] r1 with
        | .error r2 => .error r2
        | .ok (v, r2) => .ok (r2, { s with text := s.text ++ Ppa.said v })
theorem mark_elem {N f : Nat} {p : Int} {d : Nat} {r : Ppa.Bs} {st : Ppa.St} (h1 : r.head? ≠ some 63) (h2 : r.head? ≠ some 33) : Ppa.markF N (f + 1) p d r st = Ppa.elemF N f p (d + 1) r st := by
  unfold Ppa.markF
  split
  · exact absurd rfl h1
  · exact absurd rfl h2
  · exact absurd rfl h2
  · rfl
theorem mark_cdata {N f : Nat} {p : Int} {d : Nat} {t : Ppa.Bs} {st : Ppa.St} (h1 : t.head? ≠ some 45) : Ppa.markF N (f + 1) p d (33 :: t) st = some (cdataM t st) := by
  unfold Ppa.markF
  split
  · rename_i e
    cases e
  · rename_i e
    injection e with _ e
    rw [e] at h1
    exact absurd rfl h1
  · rename_i e
    injection e with _ e
    subst e
    rfl
  · rename_i e
    exact absurd rfl (e t)
theorem mark_instr {N f : Nat} {p : Int} {d : Nat} {t : Ppa.Bs} {st : Ppa.St} : Ppa.markF N (f + 1) p d (63 :: t) st = some (Ppa.instrM p t st) := by rw [Ppa.markF]
theorem mark_comm {N f : Nat} {p : Int} {d : Nat} {t : Ppa.Bs} {st : Ppa.St} : Ppa.markF N (f + 1) p d (33 :: 45 :: t) st = some (Ppa.commM p t st) := by rw [Ppa.markF]
set_option maxRecDepth 100000 in
set_option maxHeartbeats 2000000 in
theorem markup_s {B b f : Nat} {s : ByteArray} (hC : ∀ g, g < f → ContC B b s g) : MarkC B b s (f + 1) := by
  intro p d st r w o h hm ht hd hr he
  have B0 : Kept (Bel B b w w) := ⟨Bel.refl _ _ _⟩
  have hsm := h.small
  have hlen := h.len
  have TG0 : Kept True := ⟨trivial⟩
  have TG1 : Kept True := ⟨trivial⟩
  by_cases h1 : r.head? = some 63
  · obtain ⟨t, rfl⟩ := head_cons h1
    have hm1 := meas_small (List.suffix_cons 63 t) hm
    rw [mark_instr] at he
    have HE : Kept (Ppa.instrM p t st = o) := ⟨by injection he⟩
    clear he h1
    cases o with
    | error r1 =>
      go_enter Tryz.func94, Tryz.ntmps94
      go_wp2_with (first | (go_at_call 41; refine (may_yes 63 (by decide) h).mono ?_; rintro e w1 ⟨rfl, H1, hb1⟩; have B1 := Kept.mk (B0.out.trans hb1); clear hb1) | (go_at_call 42; refine (waysS_no (instruction_s p H1 hm1) HE.out).mono ?_; rintro e w2 ⟨rfl, hl2, hb2⟩; have B2 := Kept.mk (B1.out.trans hb2); clear hb2))
      exact ⟨rfl, B2.out, rfl, hl2⟩
    | ok q1 =>
      obtain ⟨r1, st1⟩ := q1
      go_enter Tryz.func94, Tryz.ntmps94
      go_wp2_with (first | (go_at_call 41; refine (may_yes 63 (by decide) h).mono ?_; rintro e w1 ⟨rfl, H1, hb1⟩; have B1 := Kept.mk (B0.out.trans hb1); clear hb1) | (go_at_call 42; refine (waysS_ok (instruction_s p H1 hm1) HE.out).mono ?_; rintro e w2 ⟨rfl, H2, hb2⟩; have B2 := Kept.mk (B1.out.trans hb2); clear hb2))
      go_end0
      exact ⟨B2.out, rfl, H2⟩
  · by_cases h2 : r.head? = some 33
    · obtain ⟨u, rfl⟩ := head_cons h2
      have hm1 := meas_small (List.suffix_cons 33 u) hm
      have K1 := Kept.mk h1
      have ht1 := Ppa.texts_low (by decide) ht
      clear h1 h2
      by_cases h3 : u.head? = some 45
      · obtain ⟨t, rfl⟩ := head_cons h3
        have hm2 := meas_small (List.suffix_cons 45 t) hm1
        rw [mark_comm] at he
        have HE : Kept (Ppa.commM p t st = o) := ⟨by injection he⟩
        clear he h3
        cases o with
        | error r1 =>
          go_enter Tryz.func94, Tryz.ntmps94
          go_wp2_with (first | (go_at_call 41; clear TG0; refine (may_not 63 (by decide) K1.out h).mono ?_; rintro e w1 ⟨rfl, H1, hb1⟩; have B1 := Kept.mk (B0.out.trans hb1); clear hb1) | (go_at_call 41; clear TG1; refine (may_yes 33 (by decide) H1).mono ?_; rintro e w2 ⟨rfl, H2, hb2⟩; have B2 := Kept.mk (B1.out.trans hb2); clear hb2) | (go_at_call 41; refine (may_yes 45 (by decide) H2).mono ?_; rintro e w3 ⟨rfl, H3, hb3⟩; have B3 := Kept.mk (B2.out.trans hb3); clear hb3) | (go_at_call 43; refine (waysS_no (comment_s p H3 hm2) HE.out).mono ?_; rintro e w4 ⟨rfl, hl4, hb4⟩; have B4 := Kept.mk (B3.out.trans hb4); clear hb4))
          exact ⟨rfl, B4.out, rfl, hl4⟩
        | ok q1 =>
          obtain ⟨r1, st1⟩ := q1
          go_enter Tryz.func94, Tryz.ntmps94
          go_wp2_with (first | (go_at_call 41; clear TG0; refine (may_not 63 (by decide) K1.out h).mono ?_; rintro e w1 ⟨rfl, H1, hb1⟩; have B1 := Kept.mk (B0.out.trans hb1); clear hb1) | (go_at_call 41; clear TG1; refine (may_yes 33 (by decide) H1).mono ?_; rintro e w2 ⟨rfl, H2, hb2⟩; have B2 := Kept.mk (B1.out.trans hb2); clear hb2) | (go_at_call 41; refine (may_yes 45 (by decide) H2).mono ?_; rintro e w3 ⟨rfl, H3, hb3⟩; have B3 := Kept.mk (B2.out.trans hb3); clear hb3) | (go_at_call 43; refine (waysS_ok (comment_s p H3 hm2) HE.out).mono ?_; rintro e w4 ⟨rfl, H4, hb4⟩; have B4 := Kept.mk (B3.out.trans hb4); clear hb4))
          go_end0
          exact ⟨B4.out, rfl, H4⟩
      · rw [mark_cdata h3] at he
        have HE : cdataM u st = o := by injection he
        unfold cdataM at HE
        have K3 := Kept.mk h3
        clear he h3
        cases hmu : Ppa.mustL [91, 67, 68, 65, 84, 65, 91] u with
        | error r1 =>
          rw [hmu] at HE
          have HX := Kept.mk HE.symm
          have KU := Kept.mk hmu
          clear hmu HE
          go_enter Tryz.func94, Tryz.ntmps94
          go_wp2_with (first | (go_at_call 41; clear TG0; refine (may_not 63 (by decide) K1.out h).mono ?_; rintro e w1 ⟨rfl, H1, hb1⟩; have B1 := Kept.mk (B0.out.trans hb1); clear hb1) | (go_at_call 41; clear TG1; refine (may_yes 33 (by decide) H1).mono ?_; rintro e w2 ⟨rfl, H2, hb2⟩; have B2 := Kept.mk (B1.out.trans hb2); clear hb2) | (go_at_call 41; refine (may_not 45 (by decide) K3.out H2).mono ?_; rintro e w3 ⟨rfl, H3, hb3⟩; have B3 := Kept.mk (B2.out.trans hb3); clear hb3) | (go_at_call 40; refine (must_s_no [91, 67, 68, 65, 84, 65, 91] (by decide) H3 KU.out).mono ?_; rintro e w4 ⟨rfl, hl4, hb4⟩; have B4 := Kept.mk (B3.out.trans hb4); clear hb4))
          exact ⟨rfl, B4.out, by rw [HX.out]; exact ⟨rfl, hl4⟩⟩
        | ok r1 =>
          rw [hmu] at HE
          dsimp only at HE
          have KU := Kept.mk hmu
          have l1 := (Ppa.mustL_suf hmu).length_le
          simp only [List.length_cons] at hlen
          clear hmu
          cases hun : Ppa.untilR [93, 93, 62] r1 with
          | error r2 =>
            rw [hun] at HE
            have HX := Kept.mk HE.symm
            have KN := Kept.mk hun
            clear hun HE
            go_enter Tryz.func94, Tryz.ntmps94
            go_wp2_with (first | (go_at_call 41; clear TG0; refine (may_not 63 (by decide) K1.out h).mono ?_; rintro e w1 ⟨rfl, H1, hb1⟩; have B1 := Kept.mk (B0.out.trans hb1); clear hb1) | (go_at_call 41; clear TG1; refine (may_yes 33 (by decide) H1).mono ?_; rintro e w2 ⟨rfl, H2, hb2⟩; have B2 := Kept.mk (B1.out.trans hb2); clear hb2) | (go_at_call 41; refine (may_not 45 (by decide) K3.out H2).mono ?_; rintro e w3 ⟨rfl, H3, hb3⟩; have B3 := Kept.mk (B2.out.trans hb3); clear hb3) | (go_at_call 40; refine (must_s_ok [91, 67, 68, 65, 84, 65, 91] (by decide) H3 KU.out).mono ?_; rintro e w4 ⟨rfl, H4, hb4⟩; have B4 := Kept.mk (B3.out.trans hb4); clear hb4))
            have H5 : Ps B b s st r1 w4.drew := H4.below (Below.refl _ _).drew
            have B5 : Kept (Bel B b w w4.drew) := ⟨B4.out.drew⟩
            go_region_dies
            all_goals
              go_at_call 81
              refine (until_s_no [93, 93, 62] (by decide) (by decide) H5 KN.out).mono ?_
              rintro e w6 ⟨rfl, hl6, hb6⟩
              exact ⟨rfl, B5.out.trans hb6, by rw [HX.out]; exact ⟨rfl, hl6⟩⟩
          | ok q2 =>
            obtain ⟨v, r2⟩ := q2
            rw [hun] at HE
            dsimp only at HE
            have HX := Kept.mk HE.symm
            have KN := Kept.mk hun
            have hv : v.length ≤ r1.length := by rw [Ppa.untilR_ok hun]; simp
            have hv2 := Ppa.said_le v
            have hte : st.text.length ≤ 300000 := by unfold Ppa.meas at hm; omega
            clear hun HE
            go_enter Tryz.func94, Tryz.ntmps94
            go_wp2_with (first | (go_at_call 41; clear TG0; refine (may_not 63 (by decide) K1.out h).mono ?_; rintro e w1 ⟨rfl, H1, hb1⟩; have B1 := Kept.mk (B0.out.trans hb1); clear hb1) | (go_at_call 41; clear TG1; refine (may_yes 33 (by decide) H1).mono ?_; rintro e w2 ⟨rfl, H2, hb2⟩; have B2 := Kept.mk (B1.out.trans hb2); clear hb2) | (go_at_call 41; refine (may_not 45 (by decide) K3.out H2).mono ?_; rintro e w3 ⟨rfl, H3, hb3⟩; have B3 := Kept.mk (B2.out.trans hb3); clear hb3) | (go_at_call 40; refine (must_s_ok [91, 67, 68, 65, 84, 65, 91] (by decide) H3 KU.out).mono ?_; rintro e w4 ⟨rfl, H4, hb4⟩; have B4 := Kept.mk (B3.out.trans hb4); clear hb4))
            have H5 : Ps B b s st r1 w4.drew := H4.below (Below.refl _ _).drew
            have B5 : Kept (Bel B b w w4.drew) := ⟨B4.out.drew⟩
            go_region_law (first
              | (go_simp; go_at_call 81; refine (until_s_ok [93, 93, 62] (by decide) (by decide) H5 KN.out).mono ?_; rintro e w6 ⟨rfl, H6, hb6⟩; have B6 := Kept.mk (B5.out.trans hb6); clear hb6)
              | (go_simp; go_at_call 82; refine (lines_t H6 v (by omega)).mono ?_; rintro e w7 ⟨rfl, H7, hb7⟩; have B7 := Kept.mk (B6.out.trans hb7); clear hb7)
              | (go_simp; go_at_call 29; refine (write_t (Ppa.said v) H7 (by omega)).mono ?_; rintro e w8 ⟨⟨n8, rfl⟩, H8, hb8⟩; have B8 := Kept.mk (B7.out.trans hb8); clear hb8))
            all_goals
              go_wp2
              go_end0
              exact ⟨B8.out, by rw [HX.out]; exact ⟨rfl, H8⟩⟩
    · rw [mark_elem h1 h2] at he
      obtain ⟨f', rfl⟩ : ∃ f', f = f' + 1 := by
        cases f with
        | zero => unfold Ppa.elemF at he; cases he
        | succ f => exact ⟨f, rfl⟩
      have K1 := Kept.mk h1
      have K2 := Kept.mk h2
      have CE := Kept.mk (fun (wx : World) (hx : Ps B b s st r wx) => element_s p (hC f' (by omega)) hx hm ht (d := d + 1) (by omega) hr he)
      have i0 : (0 : Int) ≤ (d : Int) := by omega
      have i1 : (d : Int) ≤ 100000 := by omega
      have i2 : ((d : Int) + 1) = ((d + 1 : Nat) : Int) := by omega
      have KI := Kept.mk i2
      clear h1 h2 he hC i2
      cases o with
      | error r1 =>
        go_enter Tryz.func94, Tryz.ntmps94
        go_wp2_with (first | (go_at_call 41; clear TG0; refine (may_not 63 (by decide) K1.out h).mono ?_; rintro e w1 ⟨rfl, H1, hb1⟩; have B1 := Kept.mk (B0.out.trans hb1); clear hb1) | (go_at_call 41; refine (may_not 33 (by decide) K2.out H1).mono ?_; rintro e w2 ⟨rfl, H2, hb2⟩; have B2 := Kept.mk (B1.out.trans hb2); clear hb2) | (go_at_call 45; rw [KI.out]; refine (waysS_no (CE.out _ H2) rfl).mono ?_; rintro e w3 ⟨rfl, hl3, hb3⟩; have B3 := Kept.mk (B2.out.trans hb3); clear hb3))
        exact ⟨rfl, B3.out, rfl, hl3⟩
      | ok q1 =>
        obtain ⟨r1, st1⟩ := q1
        go_enter Tryz.func94, Tryz.ntmps94
        go_wp2_with (first | (go_at_call 41; clear TG0; refine (may_not 63 (by decide) K1.out h).mono ?_; rintro e w1 ⟨rfl, H1, hb1⟩; have B1 := Kept.mk (B0.out.trans hb1); clear hb1) | (go_at_call 41; refine (may_not 33 (by decide) K2.out H1).mono ?_; rintro e w2 ⟨rfl, H2, hb2⟩; have B2 := Kept.mk (B1.out.trans hb2); clear hb2) | (go_at_call 45; rw [KI.out]; refine (waysS_ok (CE.out _ H2) rfl).mono ?_; rintro e w3 ⟨rfl, H3, hb3⟩; have B3 := Kept.mk (B2.out.trans hb3); clear hb3))
        go_end0
        exact ⟨B3.out, rfl, H3⟩
end Go.Proofs.YtlemdhfekdiaeaaGreatDoor.Wps
