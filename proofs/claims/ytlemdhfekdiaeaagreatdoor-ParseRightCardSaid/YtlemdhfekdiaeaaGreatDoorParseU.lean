/- The program's parser: instructions and comments. -/
import Derived.Test.YtlemdhfekdiaeaaGreatDoorParseO
import Derived.Test.YtlemdhfekdiaeaaGreatDoorParseL
namespace Go.Proofs.YtlemdhfekdiaeaaGreatDoor.Wps
open Go Go.RowKit Go.Proofs.YtlemdhfekdiaeaaGreatDoor.Kb Go.Proofs.YtlemdhfekdiaeaaGreatDoor.Wch Go.Proofs.YtlemdhfekdiaeaaGreatDoor.Emk

section
variable {B b : Nat} {s : ByteArray} {st : Ppa.St} {r : Ppa.Bs} {w : World}
theorem peek_t (h : Ps B b s st r w) : Calls Tryz.prog 77 #[.pointer (some ⟨b, 0, none⟩)] w fun e w' => e = .returned (.int .i32 (Ppa.peek r)) ∧ Ps B b s st r w' ∧ Bel B b w w' :=
  (peek_s h).mono fun _ _ ⟨he, hp, hb⟩ => ⟨he, hp, Bel.of hb h.hB⟩
theorem peek_v (h : Ps B b s st r w) {x : Int} (hx : Ppa.peek r = x) : Calls Tryz.prog 77 #[.pointer (some ⟨b, 0, none⟩)] w fun e w' => e = .returned (.int .i32 x) ∧ Ps B b s st r w' ∧ Bel B b w w' := by
  subst hx
  exact peek_t h
theorem blank_t (h : Ps B b s st r w) {x : Bool} (hx : blankH r = x) : Calls Tryz.prog 76 #[.pointer (some ⟨b, 0, none⟩)] w fun e w' => e = .returned (.bool x) ∧ Ps B b s st r w' ∧ Bel B b w w' := by
  subst hx
  exact (blank_s h).mono fun _ _ ⟨he, hp, hb⟩ => ⟨he, hp, Bel.of hb h.hB⟩
theorem lines_t (h : Ps B b s st r w) (v : Ppa.Bs) (hv : v.length ≤ 65536) : Calls Tryz.prog 82 #[.string ⟨v.toArray⟩] w fun e w' => e = .returned (.string ⟨(Ppa.said v).toArray⟩) ∧ Ps B b s st r w' ∧ Bel B b w w' :=
  (lines_r ⟨v.toArray⟩ w (by rw [Lib.size_mk]; exact hv) h.ev.ev).mono fun _ _ ⟨he, hb⟩ => ⟨he, h.below hb, Bel.of hb h.hB⟩
theorem fold_t (h : Ps B b s st r w) (nm : Ppa.Bs) (hv : nm.length ≤ 65536) {x : Bool} (hx : Ptr.isXml nm = x) : Calls Tryz.prog 80 #[.string ⟨nm.toArray⟩, .string ⟨#[120, 109, 108]⟩] w fun e w' => e = .returned (.bool x) ∧ Ps B b s st r w' ∧ Bel B b w w' := by
  subst hx
  exact (Wtr.fold_any ⟨nm.toArray⟩ w (by rw [Lib.size_mk]; omega) h.ev.ev.fold).mono fun _ _ ⟨he, hb⟩ => ⟨he, h.below hb, Bel.of hb h.hB⟩
theorem add_t (k : Nat) (hk : k ≠ 3) (nm vl : Ppa.Bs) (p : Int) (h : Ps B b s st r w) (hm : Ppa.meas st r ≤ 300000) :
    Calls Tryz.prog 35 #[.pointer (some ⟨b, 0, none⟩), ndV (k : Int) nm vl p] w fun e w' => e = .returned (.int .i64 ((Ppa.flush st p).nodes.length : Int)) ∧ Ps B b s (Ppa.add st (k, nm, vl, p)) r w' ∧ Bel B b w w' :=
  add_sk k hk nm vl p h (by unfold Ppa.meas at hm; omega) (by unfold Ppa.meas at hm; omega)
end
theorem meas_small {st : Ppa.St} {r r' : Ppa.Bs} (h : r' <:+ r) (hm : Ppa.meas st r ≤ 300000) : Ppa.meas st r' ≤ 300000 := Nat.le_trans (Ppa.meas_less h) hm
theorem xml_len {nm : Ppa.Bs} (h : Ptr.isXml nm = true) : nm.length = 3 := by
  unfold Ptr.isXml at h
  split at h
  · rfl
  · cases h
set_option maxRecDepth 100000 in
set_option maxHeartbeats 2000000 in
theorem comment_s {B b : Nat} {s : ByteArray} {st : Ppa.St} {r : Ppa.Bs} {w : World} (p : Int) (h : Ps B b s st r w) (hm : Ppa.meas st r ≤ 300000) :
    Calls Tryz.prog 43 #[.pointer (some ⟨b, 0, none⟩), .int .i64 p] w fun e w' => WaysS B b s w (.tuple #[]) (Ppa.commM p r st) e w' := by
  have B0 : Kept (Bel B b w w) := ⟨Bel.refl _ _ _⟩
  have hlen := h.len
  have hsm := h.small
  unfold Ppa.commM
  cases h1 : Ppa.mustL [45] r with
  | error r1 =>
    have K1 := Kept.mk h1
    clear h1
    go_enter Tryz.func43, Tryz.ntmps43
    go_wp2_with (go_at_call 40; refine (must_s_no [45] (by decide) h K1.out).mono ?_; rintro e w1 ⟨rfl, hl1, hb1⟩; have B1 := Kept.mk (B0.out.trans hb1); clear hb1)
    exact ⟨rfl, B1.out, rfl, hl1⟩
  | ok r1 =>
    have K1 := Kept.mk h1
    have s1 := Ppa.mustL_suf h1
    have z1 := s1.length_le
    dsimp only
    clear h1
    cases h2 : Ppa.untilR [45, 45] r1 with
    | error r2 =>
      have K2 := Kept.mk h2
      clear h2
      go_enter Tryz.func43, Tryz.ntmps43
      go_wp2_with (first | (go_at_call 40; refine (must_s_ok [45] (by decide) h K1.out).mono ?_; rintro e w1 ⟨rfl, H1, hb1⟩; have B1 := Kept.mk (B0.out.trans hb1); clear hb1) | (go_at_call 81; refine (until_s_no [45, 45] (by decide) (by decide) H1 K2.out).mono ?_; rintro e w2 ⟨rfl, hl2, hb2⟩; have B2 := Kept.mk (B1.out.trans hb2); clear hb2))
      exact ⟨rfl, B2.out, rfl, hl2⟩
    | ok q =>
      obtain ⟨v, r2⟩ := q
      have K2 := Kept.mk h2
      have s2 := (Ppa.untilR_suf h2).trans s1
      have z2 : v.length ≤ r1.length := by rw [Ppa.untilR_ok h2]; simp
      dsimp only
      clear h2
      cases h3 : Ppa.mustL [62] r2 with
      | error r3 =>
        have K3 := Kept.mk h3
        clear h3
        go_enter Tryz.func43, Tryz.ntmps43
        have TG0 : Kept True := ⟨trivial⟩
        go_wp2_with (first | (go_at_call 40; clear TG0; refine (must_s_ok [45] (by decide) h K1.out).mono ?_; rintro e w1 ⟨rfl, H1, hb1⟩; have B1 := Kept.mk (B0.out.trans hb1); clear hb1) | (go_at_call 81; refine (until_s_ok [45, 45] (by decide) (by decide) H1 K2.out).mono ?_; rintro e w2 ⟨rfl, H2, hb2⟩; have B2 := Kept.mk (B1.out.trans hb2); clear hb2) | (go_at_call 40; refine (must_s_no [62] (by decide) H2 K3.out).mono ?_; rintro e w3 ⟨rfl, hl3, hb3⟩; have B3 := Kept.mk (B2.out.trans hb3); clear hb3))
        exact ⟨rfl, B3.out, rfl, hl3⟩
      | ok r3 =>
        have K3 := Kept.mk h3
        have s3 := (Ppa.mustL_suf h3).trans s2
        have m3 := Kept.mk (meas_small s3 hm)
        have zv : Kept (v.length ≤ 65536) := ⟨by omega⟩
        clear h3 s1 s2 s3 z1 z2 hm hlen hsm
        go_enter Tryz.func43, Tryz.ntmps43
        have TG0 : Kept True := ⟨trivial⟩
        go_wp2_with (first | (go_at_call 40; clear TG0; refine (must_s_ok [45] (by decide) h K1.out).mono ?_; rintro e w1 ⟨rfl, H1, hb1⟩; have B1 := Kept.mk (B0.out.trans hb1); clear hb1) | (go_at_call 81; refine (until_s_ok [45, 45] (by decide) (by decide) H1 K2.out).mono ?_; rintro e w2 ⟨rfl, H2, hb2⟩; have B2 := Kept.mk (B1.out.trans hb2); clear hb2) | (go_at_call 40; refine (must_s_ok [62] (by decide) H2 K3.out).mono ?_; rintro e w3 ⟨rfl, H3, hb3⟩; have B3 := Kept.mk (B2.out.trans hb3); clear hb3) | (go_at_call 82; refine (lines_t H3 v zv.out).mono ?_; rintro e w4 ⟨rfl, H4, hb4⟩; have B4 := Kept.mk (B3.out.trans hb4); clear hb4) | (go_at_call 35; refine (add_t 5 (by decide) [] (Ppa.said v) p H4 m3.out).mono ?_; rintro e w5 ⟨rfl, H5, hb5⟩; have B5 := Kept.mk (B4.out.trans hb5); clear hb5))
        go_end0
        exact ⟨B5.out, rfl, H5⟩
set_option maxRecDepth 100000 in
set_option maxHeartbeats 2000000 in
theorem instr_xml {B b : Nat} {s : ByteArray} {st : Ppa.St} {r r1 nm : Ppa.Bs} {w : World} (p : Int) (h : Ps B b s st r w) (h1 : Ppa.nameM r = .ok (nm, r1)) (hx : Ptr.isXml nm = true) :
    Calls Tryz.prog 42 #[.pointer (some ⟨b, 0, none⟩), .int .i64 p] w fun e w' => WaysS B b s w (.tuple #[]) (.error r1) e w' := by
  have B0 : Kept (Bel B b w w) := ⟨Bel.refl _ _ _⟩
  have K1 := Kept.mk h1
  have KX := Kept.mk hx
  have hz : ((⟨nm.toArray⟩ : ByteArray).size : Int) = 3 := by rw [Lib.size_mk, xml_len hx]; rfl
  have hl : nm.length ≤ 65536 := by rw [xml_len hx]; decide
  clear h1 hx
  go_enter Tryz.func42, Tryz.ntmps42
  go_wp2_with (first | (go_at_call 79; refine (name_s_ok h K1.out).mono ?_; rintro e w1 ⟨rfl, H1, hb1⟩; have B1 := Kept.mk (B0.out.trans hb1); clear hb1) | (go_at_call 80; refine (fold_t H1 nm hl KX.out).mono ?_; rintro e w2 ⟨rfl, H2, hb2⟩; have B2 := Kept.mk (B1.out.trans hb2); clear hb2) | (go_at_call 44; refine (no_s H2).mono ?_; rintro e w3 ⟨rfl, rfl⟩))
  exact ⟨rfl, B2.out, rfl, H2.len⟩
set_option maxRecDepth 100000 in
set_option maxHeartbeats 2000000 in
theorem instr_bad {B b : Nat} {s : ByteArray} {st : Ppa.St} {r r1 nm : Ppa.Bs} {w : World} (p : Int) (h : Ps B b s st r w) (h1 : Ppa.nameM r = .ok (nm, r1)) (hx : Ptr.isXml nm = false) (hl : nm.length ≤ 65536) (hb : blankH r1 = false) (hp : ¬ Ppa.peek r1 = 63) :
    Calls Tryz.prog 42 #[.pointer (some ⟨b, 0, none⟩), .int .i64 p] w fun e w' => WaysS B b s w (.tuple #[]) (.error r1) e w' := by
  have B0 : Kept (Bel B b w w) := ⟨Bel.refl _ _ _⟩
  have K1 := Kept.mk h1
  have KX := Kept.mk hx
  have KB := Kept.mk hb
  have hq : (Ppa.peek r1 != 63) = true := by simpa using hp
  clear h1 hx hb
  go_enter Tryz.func42, Tryz.ntmps42
  go_wp2_with (first | (go_at_call 79; refine (name_s_ok h K1.out).mono ?_; rintro e w1 ⟨rfl, H1, hb1⟩; have B1 := Kept.mk (B0.out.trans hb1); clear hb1) | (go_at_call 80; refine (fold_t H1 nm hl KX.out).mono ?_; rintro e w2 ⟨rfl, H2, hb2⟩; have B2 := Kept.mk (B1.out.trans hb2); clear hb2) | (go_at_call 77; refine (peek_t H2).mono ?_; rintro e w3 ⟨rfl, H3, hb3⟩; have B3 := Kept.mk (B2.out.trans hb3); clear hb3) | (go_at_call 76; refine (blank_t H3 KB.out).mono ?_; rintro e w4 ⟨rfl, H4, hb4⟩; have B4 := Kept.mk (B3.out.trans hb4); clear hb4) | (go_at_call 44; refine (no_s H4).mono ?_; rintro e w5 ⟨rfl, rfl⟩))
  exact ⟨rfl, B4.out, rfl, H4.len⟩
set_option maxRecDepth 100000 in
set_option maxHeartbeats 2000000 in
theorem instr_until_no {B b : Nat} {s : ByteArray} {st : Ppa.St} {r r1 nm r2 : Ppa.Bs} {w : World} (p : Int) (h : Ps B b s st r w) (h1 : Ppa.nameM r = .ok (nm, r1)) (hx : Ptr.isXml nm = false) (hl : nm.length ≤ 65536) (hb : blankH r1 = true) (hp : ¬ Ppa.peek r1 = 63) (h2 : Ppa.untilR [63, 62] (Ppa.blanksL r1) = .error r2) :
    Calls Tryz.prog 42 #[.pointer (some ⟨b, 0, none⟩), .int .i64 p] w fun e w' => WaysS B b s w (.tuple #[]) (.error r2) e w' := by
  have B0 : Kept (Bel B b w w) := ⟨Bel.refl _ _ _⟩
  have K1 := Kept.mk h1
  have KX := Kept.mk hx
  have KB := Kept.mk hb
  have hq : (Ppa.peek r1 != 63) = true := by simpa using hp
  clear hb
  have K2 := Kept.mk h2
  clear h2
  clear h1 hx
  go_enter Tryz.func42, Tryz.ntmps42
  have TG3 : Kept True := ⟨trivial⟩
  go_wp2_with (first | (go_at_call 79; refine (name_s_ok h K1.out).mono ?_; rintro e w1 ⟨rfl, H1, hb1⟩; have B1 := Kept.mk (B0.out.trans hb1); clear hb1) | (go_at_call 80; refine (fold_t H1 nm hl KX.out).mono ?_; rintro e w2 ⟨rfl, H2, hb2⟩; have B2 := Kept.mk (B1.out.trans hb2); clear hb2) | (go_at_call 77; refine (peek_t H2).mono ?_; rintro e w3 ⟨rfl, H3, hb3⟩; have B3 := Kept.mk (B2.out.trans hb3); clear hb3) | (go_at_call 76; clear TG3; refine (blank_t H3 KB.out).mono ?_; rintro e w4 ⟨rfl, H4, hb4⟩; have B4 := Kept.mk (B3.out.trans hb4); clear hb4) | (go_at_call 76; refine (blank_t H4 KB.out).mono ?_; rintro e w5 ⟨rfl, H5, hb5⟩; have B5 := Kept.mk (B4.out.trans hb5); clear hb5) | (go_at_call 39; refine (blanks_s H5).mono ?_; rintro e w6 ⟨rfl, H6, hb6⟩; have B6 := Kept.mk (B5.out.trans hb6); clear hb6) | (go_at_call 81; refine (until_s_no [63, 62] (by decide) (by decide) H6 K2.out).mono ?_; rintro e w7 ⟨rfl, hl7, hb7⟩; have B7 := Kept.mk (B6.out.trans hb7); clear hb7))
  exact ⟨rfl, B7.out, rfl, hl7⟩
set_option maxRecDepth 100000 in
set_option maxHeartbeats 2000000 in
theorem instr_until_ok {B b : Nat} {s : ByteArray} {st : Ppa.St} {r r1 nm v r2 : Ppa.Bs} {w : World} (p : Int) (h : Ps B b s st r w) (h1 : Ppa.nameM r = .ok (nm, r1)) (hx : Ptr.isXml nm = false) (hl : nm.length ≤ 65536) (hb : blankH r1 = true) (hp : ¬ Ppa.peek r1 = 63) (h2 : Ppa.untilR [63, 62] (Ppa.blanksL r1) = .ok (v, r2)) (hv : v.length ≤ 65536) (hm : Ppa.meas st r2 ≤ 300000) :
    Calls Tryz.prog 42 #[.pointer (some ⟨b, 0, none⟩), .int .i64 p] w fun e w' => WaysS B b s w (.tuple #[]) (.ok (r2, Ppa.add st (6, nm, Ppa.said v, p))) e w' := by
  have B0 : Kept (Bel B b w w) := ⟨Bel.refl _ _ _⟩
  have K1 := Kept.mk h1
  have KX := Kept.mk hx
  have KB := Kept.mk hb
  have hq : (Ppa.peek r1 != 63) = true := by simpa using hp
  clear hb
  have K2 := Kept.mk h2
  have KM := Kept.mk hm
  clear h2 hm
  clear h1 hx
  go_enter Tryz.func42, Tryz.ntmps42
  have TG3 : Kept True := ⟨trivial⟩
  go_wp2_with (first | (go_at_call 79; refine (name_s_ok h K1.out).mono ?_; rintro e w1 ⟨rfl, H1, hb1⟩; have B1 := Kept.mk (B0.out.trans hb1); clear hb1) | (go_at_call 80; refine (fold_t H1 nm hl KX.out).mono ?_; rintro e w2 ⟨rfl, H2, hb2⟩; have B2 := Kept.mk (B1.out.trans hb2); clear hb2) | (go_at_call 77; refine (peek_t H2).mono ?_; rintro e w3 ⟨rfl, H3, hb3⟩; have B3 := Kept.mk (B2.out.trans hb3); clear hb3) | (go_at_call 76; clear TG3; refine (blank_t H3 KB.out).mono ?_; rintro e w4 ⟨rfl, H4, hb4⟩; have B4 := Kept.mk (B3.out.trans hb4); clear hb4) | (go_at_call 76; refine (blank_t H4 KB.out).mono ?_; rintro e w5 ⟨rfl, H5, hb5⟩; have B5 := Kept.mk (B4.out.trans hb5); clear hb5) | (go_at_call 39; refine (blanks_s H5).mono ?_; rintro e w6 ⟨rfl, H6, hb6⟩; have B6 := Kept.mk (B5.out.trans hb6); clear hb6) | (go_at_call 81; refine (until_s_ok [63, 62] (by decide) (by decide) H6 K2.out).mono ?_; rintro e w7 ⟨rfl, H7, hb7⟩; have B7 := Kept.mk (B6.out.trans hb7); clear hb7) | (go_at_call 82; refine (lines_t H7 v hv).mono ?_; rintro e w8 ⟨rfl, H8, hb8⟩; have B8 := Kept.mk (B7.out.trans hb8); clear hb8) | (go_at_call 35; refine (add_t 6 (by decide) nm (Ppa.said v) p H8 KM.out).mono ?_; rintro e w9 ⟨rfl, H9, hb9⟩; have B9 := Kept.mk (B8.out.trans hb9); clear hb9))
  go_end0
  exact ⟨B9.out, rfl, H9⟩
set_option maxRecDepth 100000 in
set_option maxHeartbeats 2000000 in
theorem instr_end_no {B b : Nat} {s : ByteArray} {st : Ppa.St} {r r1 nm r2 : Ppa.Bs} {w : World} (p : Int) (h : Ps B b s st r w) (h1 : Ppa.nameM r = .ok (nm, r1)) (hx : Ptr.isXml nm = false) (hl : nm.length ≤ 65536) (hb : blankH r1 = false) (hp : Ppa.peek r1 = 63) (h2 : Ppa.mustL [63, 62] r1 = .error r2) :
    Calls Tryz.prog 42 #[.pointer (some ⟨b, 0, none⟩), .int .i64 p] w fun e w' => WaysS B b s w (.tuple #[]) (.error r2) e w' := by
  have B0 : Kept (Bel B b w w) := ⟨Bel.refl _ _ _⟩
  have K1 := Kept.mk h1
  have KX := Kept.mk hx
  have KB := Kept.mk hb
  have KP := Kept.mk hp
  clear hb hp
  have K2 := Kept.mk h2
  clear h2
  clear h1 hx
  go_enter Tryz.func42, Tryz.ntmps42
  go_wp2_with (first | (go_at_call 79; refine (name_s_ok h K1.out).mono ?_; rintro e w1 ⟨rfl, H1, hb1⟩; have B1 := Kept.mk (B0.out.trans hb1); clear hb1) | (go_at_call 80; refine (fold_t H1 nm hl KX.out).mono ?_; rintro e w2 ⟨rfl, H2, hb2⟩; have B2 := Kept.mk (B1.out.trans hb2); clear hb2) | (go_at_call 77; refine (peek_v H2 KP.out).mono ?_; rintro e w3 ⟨rfl, H3, hb3⟩; have B3 := Kept.mk (B2.out.trans hb3); clear hb3) | (go_at_call 76; refine (blank_t H3 KB.out).mono ?_; rintro e w4 ⟨rfl, H4, hb4⟩; have B4 := Kept.mk (B3.out.trans hb4); clear hb4) | (go_at_call 40; refine (must_s_no [63, 62] (by decide) H4 K2.out).mono ?_; rintro e w5 ⟨rfl, hl5, hb5⟩; have B5 := Kept.mk (B4.out.trans hb5); clear hb5))
  exact ⟨rfl, B5.out, rfl, hl5⟩
set_option maxRecDepth 100000 in
set_option maxHeartbeats 2000000 in
theorem instr_end_ok {B b : Nat} {s : ByteArray} {st : Ppa.St} {r r1 nm r2 : Ppa.Bs} {w : World} (p : Int) (h : Ps B b s st r w) (h1 : Ppa.nameM r = .ok (nm, r1)) (hx : Ptr.isXml nm = false) (hl : nm.length ≤ 65536) (hb : blankH r1 = false) (hp : Ppa.peek r1 = 63) (h2 : Ppa.mustL [63, 62] r1 = .ok r2) (hm : Ppa.meas st r2 ≤ 300000) :
    Calls Tryz.prog 42 #[.pointer (some ⟨b, 0, none⟩), .int .i64 p] w fun e w' => WaysS B b s w (.tuple #[]) (.ok (r2, Ppa.add st (6, nm, [], p))) e w' := by
  have B0 : Kept (Bel B b w w) := ⟨Bel.refl _ _ _⟩
  have K1 := Kept.mk h1
  have KX := Kept.mk hx
  have KB := Kept.mk hb
  have KP := Kept.mk hp
  clear hb hp
  have K2 := Kept.mk h2
  have KM := Kept.mk hm
  clear h2 hm
  clear h1 hx
  go_enter Tryz.func42, Tryz.ntmps42
  go_wp2_with (first | (go_at_call 79; refine (name_s_ok h K1.out).mono ?_; rintro e w1 ⟨rfl, H1, hb1⟩; have B1 := Kept.mk (B0.out.trans hb1); clear hb1) | (go_at_call 80; refine (fold_t H1 nm hl KX.out).mono ?_; rintro e w2 ⟨rfl, H2, hb2⟩; have B2 := Kept.mk (B1.out.trans hb2); clear hb2) | (go_at_call 77; refine (peek_v H2 KP.out).mono ?_; rintro e w3 ⟨rfl, H3, hb3⟩; have B3 := Kept.mk (B2.out.trans hb3); clear hb3) | (go_at_call 76; refine (blank_t H3 KB.out).mono ?_; rintro e w4 ⟨rfl, H4, hb4⟩; have B4 := Kept.mk (B3.out.trans hb4); clear hb4) | (go_at_call 40; refine (must_s_ok [63, 62] (by decide) H4 K2.out).mono ?_; rintro e w5 ⟨rfl, H5, hb5⟩; have B5 := Kept.mk (B4.out.trans hb5); clear hb5) | (go_at_call 82; refine (lines_t H5 [] (by decide)).mono ?_; rintro e w6 ⟨rfl, H6, hb6⟩; have B6 := Kept.mk (B5.out.trans hb6); clear hb6) | (go_at_call 35; refine (add_t 6 (by decide) nm [] p H6 KM.out).mono ?_; rintro e w7 ⟨rfl, H7, hb7⟩; have B7 := Kept.mk (B6.out.trans hb7); clear hb7))
  go_end0
  exact ⟨B7.out, rfl, H7⟩
set_option maxRecDepth 100000 in
set_option maxHeartbeats 2000000 in
theorem instr_name {B b : Nat} {s : ByteArray} {st : Ppa.St} {r r1 : Ppa.Bs} {w : World} (p : Int) (h : Ps B b s st r w) (h1 : Ppa.nameM r = .error r1) :
    Calls Tryz.prog 42 #[.pointer (some ⟨b, 0, none⟩), .int .i64 p] w fun e w' => WaysS B b s w (.tuple #[]) (.error r1) e w' := by
  have B0 : Kept (Bel B b w w) := ⟨Bel.refl _ _ _⟩
  have K1 := Kept.mk h1
  clear h1
  go_enter Tryz.func42, Tryz.ntmps42
  go_wp2_with (go_at_call 79; refine (name_s_no h K1.out).mono ?_; rintro e w1 ⟨rfl, hl1, hb1⟩; have B1 := Kept.mk (B0.out.trans hb1); clear hb1)
  exact ⟨rfl, B1.out, rfl, hl1⟩
theorem instruction_s {B b : Nat} {s : ByteArray} {st : Ppa.St} {r : Ppa.Bs} {w : World} (p : Int) (h : Ps B b s st r w) (hm : Ppa.meas st r ≤ 300000) :
    Calls Tryz.prog 42 #[.pointer (some ⟨b, 0, none⟩), .int .i64 p] w fun e w' => WaysS B b s w (.tuple #[]) (Ppa.instrM p r st) e w' := by
  have hlen := h.len
  have hsm := h.small
  unfold Ppa.instrM
  cases h1 : Ppa.nameM r with
  | error r1 => exact instr_name p h h1
  | ok q =>
    obtain ⟨nm, r1⟩ := q
    dsimp only
    have a1 := Ppa.nameM_lt h1
    have a2 := Ppa.nameM_suf h1
    have hl : nm.length ≤ 65536 := by omega
    cases hx : Ptr.isXml nm with
    | true =>
      rw [if_pos rfl]
      exact instr_xml p h h1 hx
    | false =>
      rw [if_neg (by decide)]
      cases r1 with
      | nil => exact instr_bad p h h1 hx hl rfl (by decide)
      | cons y u =>
        dsimp only
        cases hb : Pch.blankC y with
        | true =>
          rw [if_pos rfl]
          have hne : ¬ Ppa.peek (y :: u) = 63 := fun e => by
            have h2 := (peek_is 63 (by decide) _).1 e
            injection h2 with h2
            rw [h2] at hb
            revert hb
            decide
          cases h2 : Ppa.untilR [63, 62] (Ppa.blanksL (y :: u)) with
          | error r2 => exact instr_until_no p h h1 hx hl hb hne h2
          | ok q2 =>
            obtain ⟨v, r2⟩ := q2
            have b1 := Ppa.blanksL_suf (y :: u)
            have b2 := b1.length_le
            have b3 := Ppa.untilR_ok h2
            have b4 : v.length ≤ (Ppa.blanksL (y :: u)).length := by rw [b3]; simp
            exact instr_until_ok p h h1 hx hl hb hne h2 (by omega) (meas_small (((Ppa.untilR_suf h2).trans b1).trans a2) hm)
        | false =>
          rw [if_neg (by decide)]
          by_cases h63 : y = 63
          · subst h63
            rw [if_pos rfl]
            have hp : Ppa.peek (63 :: u) = 63 := (peek_is 63 (by decide) _).2 rfl
            cases h2 : Ppa.mustL [63, 62] (63 :: u) with
            | error r2 => exact instr_end_no p h h1 hx hl hb hp h2
            | ok r2 => exact instr_end_ok p h h1 hx hl hb hp h2 (meas_small ((Ppa.mustL_suf h2).trans a2) hm)
          · rw [if_neg h63]
            exact instr_bad p h h1 hx hl hb (fun e => h63 (by have h2 := (peek_is 63 (by decide) _).1 e; injection h2))
end Go.Proofs.YtlemdhfekdiaeaaGreatDoor.Wps
