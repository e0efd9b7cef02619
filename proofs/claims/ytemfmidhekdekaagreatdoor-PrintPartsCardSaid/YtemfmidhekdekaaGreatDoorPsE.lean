/- Joined texts: ParseU, ParseV, ParseW, ParseX, ParseY, ParseZ. -/
import Derived.Test.YtemfmidhekdekaaGreatDoorPsD
import Derived.Deep.CutRange
import Derived.Deep.CutBlock
import Derived.RegionDies
namespace Go.Proofs.YtemfmidhekdekaaGreatDoor.Wps
open Go Go.RowKit Go.Proofs.YtemfmidhekdekaaGreatDoor.Kb Go.Proofs.YtemfmidhekdekaaGreatDoor.Wch Go.Proofs.YtemfmidhekdekaaGreatDoor.Emk

section
variable {B b : Nat} {s : ByteArray} {st : Ppa.St} {r : Ppa.Bs} {w : World}
theorem peek_t (h : Ps B b s st r w) : Calls Tryz.prog 67 #[.pointer (some ⟨b, 0, none⟩)] w fun e w' => e = .returned (.int .i32 (Ppa.peek r)) ∧ Ps B b s st r w' ∧ Bel B b w w' :=
  (peek_s h).mono fun _ _ ⟨he, hp, hb⟩ => ⟨he, hp, Bel.of hb h.hB⟩
theorem peek_v (h : Ps B b s st r w) {x : Int} (hx : Ppa.peek r = x) : Calls Tryz.prog 67 #[.pointer (some ⟨b, 0, none⟩)] w fun e w' => e = .returned (.int .i32 x) ∧ Ps B b s st r w' ∧ Bel B b w w' := by
  subst hx
  exact peek_t h
theorem blank_t (h : Ps B b s st r w) {x : Bool} (hx : blankH r = x) : Calls Tryz.prog 84 #[.pointer (some ⟨b, 0, none⟩)] w fun e w' => e = .returned (.bool x) ∧ Ps B b s st r w' ∧ Bel B b w w' := by
  subst hx
  exact (blank_s h).mono fun _ _ ⟨he, hp, hb⟩ => ⟨he, hp, Bel.of hb h.hB⟩
theorem lines_t (h : Ps B b s st r w) (v : Ppa.Bs) (hv : v.length ≤ 65536) : Calls Tryz.prog 87 #[.string ⟨v.toArray⟩] w fun e w' => e = .returned (.string ⟨(Ppa.said v).toArray⟩) ∧ Ps B b s st r w' ∧ Bel B b w w' :=
  (lines_r ⟨v.toArray⟩ w (by rw [Lib.size_mk]; exact hv) h.ev.ev).mono fun _ _ ⟨he, hb⟩ => ⟨he, h.below hb, Bel.of hb h.hB⟩
theorem fold_t (h : Ps B b s st r w) (nm : Ppa.Bs) (hv : nm.length ≤ 65536) {x : Bool} (hx : Ptr.isXml nm = x) : Calls Tryz.prog 78 #[.string ⟨nm.toArray⟩, .string ⟨#[120, 109, 108]⟩] w fun e w' => e = .returned (.bool x) ∧ Ps B b s st r w' ∧ Bel B b w w' := by
  subst hx
  exact (Wtr.fold_any ⟨nm.toArray⟩ w (by rw [Lib.size_mk]; omega) h.ev.ev.fold).mono fun _ _ ⟨he, hb⟩ => ⟨he, h.below hb, Bel.of hb h.hB⟩
theorem add_t (k : Nat) (hk : k ≠ 3) (nm vl : Ppa.Bs) (p : Int) (h : Ps B b s st r w) (hm : Ppa.meas st r ≤ 300000) :
    Calls Tryz.prog 52 #[.pointer (some ⟨b, 0, none⟩), ndV (k : Int) nm vl p] w fun e w' => e = .returned (.int .i64 ((Ppa.flush st p).nodes.length : Int)) ∧ Ps B b s (Ppa.add st (k, nm, vl, p)) r w' ∧ Bel B b w w' :=
  add_sk k hk nm vl p h (by unfold Ppa.meas at hm; omega) (by unfold Ppa.meas at hm; omega)
end
theorem meas_small {st : Ppa.St} {r r' : Ppa.Bs} (h : r' <:+ r) (hm : Ppa.meas st r ≤ 300000) : Ppa.meas st r' ≤ 300000 := Nat.le_trans (Ppa.meas_less h) hm
theorem xml_len {nm : Ppa.Bs} (h : Ptr.isXml nm = true) : nm.length = 3 := by
  unfold Ptr.isXml at h
  split at h
  · rfl
  · cases h
set_option maxRecDepth 100000 in
set_option maxHeartbeats 2000000 in
theorem comment_s {B b : Nat} {s : ByteArray} {st : Ppa.St} {r : Ppa.Bs} {w : World} (p : Int) (h : Ps B b s st r w) (hm : Ppa.meas st r ≤ 300000) :
    Calls Tryz.prog 60 #[.pointer (some ⟨b, 0, none⟩), .int .i64 p] w fun e w' => WaysS B b s w (.tuple #[]) (Ppa.commM p r st) e w' := by
  have B0 : Kept (Bel B b w w) := ⟨Bel.refl _ _ _⟩
  have hlen := h.len
  have hsm := h.small
  unfold Ppa.commM
  cases h1 : Ppa.mustL [45] r with
  | error r1 =>
    have K1 := Kept.mk h1
    clear h1
    go_enter Tryz.func60, Tryz.ntmps60
    go_wp2_with (go_at_call 57; refine (must_s_no [45] (by decide) h K1.out).mono ?_; rintro e w1 ⟨rfl, hl1, hb1⟩; have B1 := Kept.mk (B0.out.trans hb1); clear hb1)
    exact ⟨rfl, B1.out, rfl, hl1⟩
  | ok r1 =>
    have K1 := Kept.mk h1
    have s1 := Ppa.mustL_suf h1
    have z1 := s1.length_le
    dsimp only
    clear h1
    cases h2 : Ppa.untilR [45, 45] r1 with
    | error r2 =>
      have K2 := Kept.mk h2
      clear h2
      go_enter Tryz.func60, Tryz.ntmps60
      go_wp2_with (first | (go_at_call 57; refine (must_s_ok [45] (by decide) h K1.out).mono ?_; rintro e w1 ⟨rfl, H1, hb1⟩; have B1 := Kept.mk (B0.out.trans hb1); clear hb1) | (go_at_call 86; refine (until_s_no [45, 45] (by decide) (by decide) H1 K2.out).mono ?_; rintro e w2 ⟨rfl, hl2, hb2⟩; have B2 := Kept.mk (B1.out.trans hb2); clear hb2))
      exact ⟨rfl, B2.out, rfl, hl2⟩
    | ok q =>
      obtain ⟨v, r2⟩ := q
      have K2 := Kept.mk h2
      have s2 := (Ppa.untilR_suf h2).trans s1
      have z2 : v.length ≤ r1.length := by rw [Ppa.untilR_ok h2]; simp
      dsimp only
      clear h2
      cases h3 : Ppa.mustL [62] r2 with
      | error r3 =>
        have K3 := Kept.mk h3
        clear h3
        go_enter Tryz.func60, Tryz.ntmps60
        have TG0 : Kept True := ⟨trivial⟩
        go_wp2_with (first | (go_at_call 57; clear TG0; refine (must_s_ok [45] (by decide) h K1.out).mono ?_; rintro e w1 ⟨rfl, H1, hb1⟩; have B1 := Kept.mk (B0.out.trans hb1); clear hb1) | (go_at_call 86; refine (until_s_ok [45, 45] (by decide) (by decide) H1 K2.out).mono ?_; rintro e w2 ⟨rfl, H2, hb2⟩; have B2 := Kept.mk (B1.out.trans hb2); clear hb2) | (go_at_call 57; refine (must_s_no [62] (by decide) H2 K3.out).mono ?_; rintro e w3 ⟨rfl, hl3, hb3⟩; have B3 := Kept.mk (B2.out.trans hb3); clear hb3))
        exact ⟨rfl, B3.out, rfl, hl3⟩
      | ok r3 =>
        have K3 := Kept.mk h3
        have s3 := (Ppa.mustL_suf h3).trans s2
        have m3 := Kept.mk (meas_small s3 hm)
        have zv : Kept (v.length ≤ 65536) := ⟨by omega⟩
        clear h3 s1 s2 s3 z1 z2 hm hlen hsm
        go_enter Tryz.func60, Tryz.ntmps60
        have TG0 : Kept True := ⟨trivial⟩
        go_wp2_with (first | (go_at_call 57; clear TG0; refine (must_s_ok [45] (by decide) h K1.out).mono ?_; rintro e w1 ⟨rfl, H1, hb1⟩; have B1 := Kept.mk (B0.out.trans hb1); clear hb1) | (go_at_call 86; refine (until_s_ok [45, 45] (by decide) (by decide) H1 K2.out).mono ?_; rintro e w2 ⟨rfl, H2, hb2⟩; have B2 := Kept.mk (B1.out.trans hb2); clear hb2) | (go_at_call 57; refine (must_s_ok [62] (by decide) H2 K3.out).mono ?_; rintro e w3 ⟨rfl, H3, hb3⟩; have B3 := Kept.mk (B2.out.trans hb3); clear hb3) | (go_at_call 87; refine (lines_t H3 v zv.out).mono ?_; rintro e w4 ⟨rfl, H4, hb4⟩; have B4 := Kept.mk (B3.out.trans hb4); clear hb4) | (go_at_call 52; refine (add_t 5 (by decide) [] (Ppa.said v) p H4 m3.out).mono ?_; rintro e w5 ⟨rfl, H5, hb5⟩; have B5 := Kept.mk (B4.out.trans hb5); clear hb5))
        go_end0
        exact ⟨B5.out, rfl, H5⟩
set_option maxRecDepth 100000 in
set_option maxHeartbeats 2000000 in
theorem instr_xml {B b : Nat} {s : ByteArray} {st : Ppa.St} {r r1 nm : Ppa.Bs} {w : World} (p : Int) (h : Ps B b s st r w) (h1 : Ppa.nameM r = .ok (nm, r1)) (hx : Ptr.isXml nm = true) :
    Calls Tryz.prog 59 #[.pointer (some ⟨b, 0, none⟩), .int .i64 p] w fun e w' => WaysS B b s w (.tuple #[]) (.error r1) e w' := by
  have B0 : Kept (Bel B b w w) := ⟨Bel.refl _ _ _⟩
  have K1 := Kept.mk h1
  have KX := Kept.mk hx
  have hz : ((⟨nm.toArray⟩ : ByteArray).size : Int) = 3 := by rw [Lib.size_mk, xml_len hx]; rfl
  have hl : nm.length ≤ 65536 := by rw [xml_len hx]; decide
  clear h1 hx
  go_enter Tryz.func59, Tryz.ntmps59
  go_wp2_with (first | (go_at_call 85; refine (name_s_ok h K1.out).mono ?_; rintro e w1 ⟨rfl, H1, hb1⟩; have B1 := Kept.mk (B0.out.trans hb1); clear hb1) | (go_at_call 78; refine (fold_t H1 nm hl KX.out).mono ?_; rintro e w2 ⟨rfl, H2, hb2⟩; have B2 := Kept.mk (B1.out.trans hb2); clear hb2) | (go_at_call 61; refine (no_s H2).mono ?_; rintro e w3 ⟨rfl, rfl⟩))
  exact ⟨rfl, B2.out, rfl, H2.len⟩
set_option maxRecDepth 100000 in
set_option maxHeartbeats 2000000 in
theorem instr_bad {B b : Nat} {s : ByteArray} {st : Ppa.St} {r r1 nm : Ppa.Bs} {w : World} (p : Int) (h : Ps B b s st r w) (h1 : Ppa.nameM r = .ok (nm, r1)) (hx : Ptr.isXml nm = false) (hl : nm.length ≤ 65536) (hb : blankH r1 = false) (hp : ¬ Ppa.peek r1 = 63) :
    Calls Tryz.prog 59 #[.pointer (some ⟨b, 0, none⟩), .int .i64 p] w fun e w' => WaysS B b s w (.tuple #[]) (.error r1) e w' := by
  have B0 : Kept (Bel B b w w) := ⟨Bel.refl _ _ _⟩
  have K1 := Kept.mk h1
  have KX := Kept.mk hx
  have KB := Kept.mk hb
  have hq : (Ppa.peek r1 != 63) = true := by simpa using hp
  clear h1 hx hb
  go_enter Tryz.func59, Tryz.ntmps59
  go_wp2_with (first | (go_at_call 85; refine (name_s_ok h K1.out).mono ?_; rintro e w1 ⟨rfl, H1, hb1⟩; have B1 := Kept.mk (B0.out.trans hb1); clear hb1) | (go_at_call 78; refine (fold_t H1 nm hl KX.out).mono ?_; rintro e w2 ⟨rfl, H2, hb2⟩; have B2 := Kept.mk (B1.out.trans hb2); clear hb2) | (go_at_call 67; refine (peek_t H2).mono ?_; rintro e w3 ⟨rfl, H3, hb3⟩; have B3 := Kept.mk (B2.out.trans hb3); clear hb3) | (go_at_call 84; refine (blank_t H3 KB.out).mono ?_; rintro e w4 ⟨rfl, H4, hb4⟩; have B4 := Kept.mk (B3.out.trans hb4); clear hb4) | (go_at_call 61; refine (no_s H4).mono ?_; rintro e w5 ⟨rfl, rfl⟩))
  exact ⟨rfl, B4.out, rfl, H4.len⟩
set_option maxRecDepth 100000 in
set_option maxHeartbeats 2000000 in
theorem instr_until_no {B b : Nat} {s : ByteArray} {st : Ppa.St} {r r1 nm r2 : Ppa.Bs} {w : World} (p : Int) (h : Ps B b s st r w) (h1 : Ppa.nameM r = .ok (nm, r1)) (hx : Ptr.isXml nm = false) (hl : nm.length ≤ 65536) (hb : blankH r1 = true) (hp : ¬ Ppa.peek r1 = 63) (h2 : Ppa.untilR [63, 62] (Ppa.blanksL r1) = .error r2) :
    Calls Tryz.prog 59 #[.pointer (some ⟨b, 0, none⟩), .int .i64 p] w fun e w' => WaysS B b s w (.tuple #[]) (.error r2) e w' := by
  have B0 : Kept (Bel B b w w) := ⟨Bel.refl _ _ _⟩
  have K1 := Kept.mk h1
  have KX := Kept.mk hx
  have KB := Kept.mk hb
  have hq : (Ppa.peek r1 != 63) = true := by simpa using hp
  clear hb
  have K2 := Kept.mk h2
  clear h2
  clear h1 hx
  go_enter Tryz.func59, Tryz.ntmps59
  have TG3 : Kept True := ⟨trivial⟩
  go_wp2_with (first | (go_at_call 85; refine (name_s_ok h K1.out).mono ?_; rintro e w1 ⟨rfl, H1, hb1⟩; have B1 := Kept.mk (B0.out.trans hb1); clear hb1) | (go_at_call 78; refine (fold_t H1 nm hl KX.out).mono ?_; rintro e w2 ⟨rfl, H2, hb2⟩; have B2 := Kept.mk (B1.out.trans hb2); clear hb2) | (go_at_call 67; refine (peek_t H2).mono ?_; rintro e w3 ⟨rfl, H3, hb3⟩; have B3 := Kept.mk (B2.out.trans hb3); clear hb3) | (go_at_call 84; clear TG3; refine (blank_t H3 KB.out).mono ?_; rintro e w4 ⟨rfl, H4, hb4⟩; have B4 := Kept.mk (B3.out.trans hb4); clear hb4) | (go_at_call 84; refine (blank_t H4 KB.out).mono ?_; rintro e w5 ⟨rfl, H5, hb5⟩; have B5 := Kept.mk (B4.out.trans hb5); clear hb5) | (go_at_call 56; refine (blanks_s H5).mono ?_; rintro e w6 ⟨rfl, H6, hb6⟩; have B6 := Kept.mk (B5.out.trans hb6); clear hb6) | (go_at_call 86; refine (until_s_no [63, 62] (by decide) (by decide) H6 K2.out).mono ?_; rintro e w7 ⟨rfl, hl7, hb7⟩; have B7 := Kept.mk (B6.out.trans hb7); clear hb7))
  exact ⟨rfl, B7.out, rfl, hl7⟩
set_option maxRecDepth 100000 in
set_option maxHeartbeats 2000000 in
theorem instr_until_ok {B b : Nat} {s : ByteArray} {st : Ppa.St} {r r1 nm v r2 : Ppa.Bs} {w : World} (p : Int) (h : Ps B b s st r w) (h1 : Ppa.nameM r = .ok (nm, r1)) (hx : Ptr.isXml nm = false) (hl : nm.length ≤ 65536) (hb : blankH r1 = true) (hp : ¬ Ppa.peek r1 = 63) (h2 : Ppa.untilR [63, 62] (Ppa.blanksL r1) = .ok (v, r2)) (hv : v.length ≤ 65536) (hm : Ppa.meas st r2 ≤ 300000) :
    Calls Tryz.prog 59 #[.pointer (some ⟨b, 0, none⟩), .int .i64 p] w fun e w' => WaysS B b s w (.tuple #[]) (.ok (r2, Ppa.add st (6, nm, Ppa.said v, p))) e w' := by
  have B0 : Kept (Bel B b w w) := ⟨Bel.refl _ _ _⟩
  have K1 := Kept.mk h1
  have KX := Kept.mk hx
  have KB := Kept.mk hb
  have hq : (Ppa.peek r1 != 63) = true := by simpa using hp
  clear hb
  have K2 := Kept.mk h2
  have KM := Kept.mk hm
  clear h2 hm
  clear h1 hx
  go_enter Tryz.func59, Tryz.ntmps59
  have TG3 : Kept True := ⟨trivial⟩
  go_wp2_with (first | (go_at_call 85; refine (name_s_ok h K1.out).mono ?_; rintro e w1 ⟨rfl, H1, hb1⟩; have B1 := Kept.mk (B0.out.trans hb1); clear hb1) | (go_at_call 78; refine (fold_t H1 nm hl KX.out).mono ?_; rintro e w2 ⟨rfl, H2, hb2⟩; have B2 := Kept.mk (B1.out.trans hb2); clear hb2) | (go_at_call 67; refine (peek_t H2).mono ?_; rintro e w3 ⟨rfl, H3, hb3⟩; have B3 := Kept.mk (B2.out.trans hb3); clear hb3) | (go_at_call 84; clear TG3; refine (blank_t H3 KB.out).mono ?_; rintro e w4 ⟨rfl, H4, hb4⟩; have B4 := Kept.mk (B3.out.trans hb4); clear hb4) | (go_at_call 84; refine (blank_t H4 KB.out).mono ?_; rintro e w5 ⟨rfl, H5, hb5⟩; have B5 := Kept.mk (B4.out.trans hb5); clear hb5) | (go_at_call 56; refine (blanks_s H5).mono ?_; rintro e w6 ⟨rfl, H6, hb6⟩; have B6 := Kept.mk (B5.out.trans hb6); clear hb6) | (go_at_call 86; refine (until_s_ok [63, 62] (by decide) (by decide) H6 K2.out).mono ?_; rintro e w7 ⟨rfl, H7, hb7⟩; have B7 := Kept.mk (B6.out.trans hb7); clear hb7) | (go_at_call 87; refine (lines_t H7 v hv).mono ?_; rintro e w8 ⟨rfl, H8, hb8⟩; have B8 := Kept.mk (B7.out.trans hb8); clear hb8) | (go_at_call 52; refine (add_t 6 (by decide) nm (Ppa.said v) p H8 KM.out).mono ?_; rintro e w9 ⟨rfl, H9, hb9⟩; have B9 := Kept.mk (B8.out.trans hb9); clear hb9))
  go_end0
  exact ⟨B9.out, rfl, H9⟩
set_option maxRecDepth 100000 in
set_option maxHeartbeats 2000000 in
theorem instr_end_no {B b : Nat} {s : ByteArray} {st : Ppa.St} {r r1 nm r2 : Ppa.Bs} {w : World} (p : Int) (h : Ps B b s st r w) (h1 : Ppa.nameM r = .ok (nm, r1)) (hx : Ptr.isXml nm = false) (hl : nm.length ≤ 65536) (hb : blankH r1 = false) (hp : Ppa.peek r1 = 63) (h2 : Ppa.mustL [63, 62] r1 = .error r2) :
    Calls Tryz.prog 59 #[.pointer (some ⟨b, 0, none⟩), .int .i64 p] w fun e w' => WaysS B b s w (.tuple #[]) (.error r2) e w' := by
  have B0 : Kept (Bel B b w w) := ⟨Bel.refl _ _ _⟩
  have K1 := Kept.mk h1
  have KX := Kept.mk hx
  have KB := Kept.mk hb
  have KP := Kept.mk hp
  clear hb hp
  have K2 := Kept.mk h2
  clear h2
  clear h1 hx
  go_enter Tryz.func59, Tryz.ntmps59
  go_wp2_with (first | (go_at_call 85; refine (name_s_ok h K1.out).mono ?_; rintro e w1 ⟨rfl, H1, hb1⟩; have B1 := Kept.mk (B0.out.trans hb1); clear hb1) | (go_at_call 78; refine (fold_t H1 nm hl KX.out).mono ?_; rintro e w2 ⟨rfl, H2, hb2⟩; have B2 := Kept.mk (B1.out.trans hb2); clear hb2) | (go_at_call 67; refine (peek_v H2 KP.out).mono ?_; rintro e w3 ⟨rfl, H3, hb3⟩; have B3 := Kept.mk (B2.out.trans hb3); clear hb3) | (go_at_call 84; refine (blank_t H3 KB.out).mono ?_; rintro e w4 ⟨rfl, H4, hb4⟩; have B4 := Kept.mk (B3.out.trans hb4); clear hb4) | (go_at_call 57; refine (must_s_no [63, 62] (by decide) H4 K2.out).mono ?_; rintro e w5 ⟨rfl, hl5, hb5⟩; have B5 := Kept.mk (B4.out.trans hb5); clear hb5))
  exact ⟨rfl, B5.out, rfl, hl5⟩
set_option maxRecDepth 100000 in
set_option maxHeartbeats 2000000 in
theorem instr_end_ok {B b : Nat} {s : ByteArray} {st : Ppa.St} {r r1 nm r2 : Ppa.Bs} {w : World} (p : Int) (h : Ps B b s st r w) (h1 : Ppa.nameM r = .ok (nm, r1)) (hx : Ptr.isXml nm = false) (hl : nm.length ≤ 65536) (hb : blankH r1 = false) (hp : Ppa.peek r1 = 63) (h2 : Ppa.mustL [63, 62] r1 = .ok r2) (hm : Ppa.meas st r2 ≤ 300000) :
    Calls Tryz.prog 59 #[.pointer (some ⟨b, 0, none⟩), .int .i64 p] w fun e w' => WaysS B b s w (.tuple #[]) (.ok (r2, Ppa.add st (6, nm, [], p))) e w' := by
  have B0 : Kept (Bel B b w w) := ⟨Bel.refl _ _ _⟩
  have K1 := Kept.mk h1
  have KX := Kept.mk hx
  have KB := Kept.mk hb
  have KP := Kept.mk hp
  clear hb hp
  have K2 := Kept.mk h2
  have KM := Kept.mk hm
  clear h2 hm
  clear h1 hx
  go_enter Tryz.func59, Tryz.ntmps59
  go_wp2_with (first | (go_at_call 85; refine (name_s_ok h K1.out).mono ?_; rintro e w1 ⟨rfl, H1, hb1⟩; have B1 := Kept.mk (B0.out.trans hb1); clear hb1) | (go_at_call 78; refine (fold_t H1 nm hl KX.out).mono ?_; rintro e w2 ⟨rfl, H2, hb2⟩; have B2 := Kept.mk (B1.out.trans hb2); clear hb2) | (go_at_call 67; refine (peek_v H2 KP.out).mono ?_; rintro e w3 ⟨rfl, H3, hb3⟩; have B3 := Kept.mk (B2.out.trans hb3); clear hb3) | (go_at_call 84; refine (blank_t H3 KB.out).mono ?_; rintro e w4 ⟨rfl, H4, hb4⟩; have B4 := Kept.mk (B3.out.trans hb4); clear hb4) | (go_at_call 57; refine (must_s_ok [63, 62] (by decide) H4 K2.out).mono ?_; rintro e w5 ⟨rfl, H5, hb5⟩; have B5 := Kept.mk (B4.out.trans hb5); clear hb5) | (go_at_call 87; refine (lines_t H5 [] (by decide)).mono ?_; rintro e w6 ⟨rfl, H6, hb6⟩; have B6 := Kept.mk (B5.out.trans hb6); clear hb6) | (go_at_call 52; refine (add_t 6 (by decide) nm [] p H6 KM.out).mono ?_; rintro e w7 ⟨rfl, H7, hb7⟩; have B7 := Kept.mk (B6.out.trans hb7); clear hb7))
  go_end0
  exact ⟨B7.out, rfl, H7⟩
set_option maxRecDepth 100000 in
set_option maxHeartbeats 2000000 in
theorem instr_name {B b : Nat} {s : ByteArray} {st : Ppa.St} {r r1 : Ppa.Bs} {w : World} (p : Int) (h : Ps B b s st r w) (h1 : Ppa.nameM r = .error r1) :
    Calls Tryz.prog 59 #[.pointer (some ⟨b, 0, none⟩), .int .i64 p] w fun e w' => WaysS B b s w (.tuple #[]) (.error r1) e w' := by
  have B0 : Kept (Bel B b w w) := ⟨Bel.refl _ _ _⟩
  have K1 := Kept.mk h1
  clear h1
  go_enter Tryz.func59, Tryz.ntmps59
  go_wp2_with (go_at_call 85; refine (name_s_no h K1.out).mono ?_; rintro e w1 ⟨rfl, hl1, hb1⟩; have B1 := Kept.mk (B0.out.trans hb1); clear hb1)
  exact ⟨rfl, B1.out, rfl, hl1⟩
theorem instruction_s {B b : Nat} {s : ByteArray} {st : Ppa.St} {r : Ppa.Bs} {w : World} (p : Int) (h : Ps B b s st r w) (hm : Ppa.meas st r ≤ 300000) :
    Calls Tryz.prog 59 #[.pointer (some ⟨b, 0, none⟩), .int .i64 p] w fun e w' => WaysS B b s w (.tuple #[]) (Ppa.instrM p r st) e w' := by
  have hlen := h.len
  have hsm := h.small
  unfold Ppa.instrM
  cases h1 : Ppa.nameM r with
  | error r1 => exact instr_name p h h1
  | ok q =>
    obtain ⟨nm, r1⟩ := q
    dsimp only
    have a1 := Ppa.nameM_lt h1
    have a2 := Ppa.nameM_suf h1
    have hl : nm.length ≤ 65536 := by omega
    cases hx : Ptr.isXml nm with
    | true =>
      rw [if_pos rfl]
      exact instr_xml p h h1 hx
    | false =>
      rw [if_neg (by decide)]
      cases r1 with
      | nil => exact instr_bad p h h1 hx hl rfl (by decide)
      | cons y u =>
        dsimp only
        cases hb : Pch.blankC y with
        | true =>
          rw [if_pos rfl]
          have hne : ¬ Ppa.peek (y :: u) = 63 := fun e => by
            have h2 := (peek_is 63 (by decide) _).1 e
            injection h2 with h2
            rw [h2] at hb
            revert hb
            decide
          cases h2 : Ppa.untilR [63, 62] (Ppa.blanksL (y :: u)) with
          | error r2 => exact instr_until_no p h h1 hx hl hb hne h2
          | ok q2 =>
            obtain ⟨v, r2⟩ := q2
            have b1 := Ppa.blanksL_suf (y :: u)
            have b2 := b1.length_le
            have b3 := Ppa.untilR_ok h2
            have b4 : v.length ≤ (Ppa.blanksL (y :: u)).length := by rw [b3]; simp
            exact instr_until_ok p h h1 hx hl hb hne h2 (by omega) (meas_small (((Ppa.untilR_suf h2).trans b1).trans a2) hm)
        | false =>
          rw [if_neg (by decide)]
          by_cases h63 : y = 63
          · subst h63
            rw [if_pos rfl]
            have hp : Ppa.peek (63 :: u) = 63 := (peek_is 63 (by decide) _).2 rfl
            cases h2 : Ppa.mustL [63, 62] (63 :: u) with
            | error r2 => exact instr_end_no p h h1 hx hl hb hp h2
            | ok r2 => exact instr_end_ok p h h1 hx hl hb hp h2 (meas_small ((Ppa.mustL_suf h2).trans a2) hm)
          · rw [if_neg h63]
            exact instr_bad p h h1 hx hl hb (fun e => h63 (by have h2 := (peek_is 63 (by decide) _).1 e; injection h2))
end Go.Proofs.YtemfmidhekdekaaGreatDoor.Wps
namespace Go.Proofs.YtemfmidhekdekaaGreatDoor.Wps
open Go Go.RowKit Go.Proofs.YtemfmidhekdekaaGreatDoor.Kb Go.Proofs.YtemfmidhekdekaaGreatDoor.Wch Go.Proofs.YtemfmidhekdekaaGreatDoor.Emk

/-- the parser beside a node of the function's own, in block g -/
structure An (B b g : Nat) (s : ByteArray) (st : Ppa.St) (cs : Array Value) (A : Option Addr) (c : Nat) (p v : Value) (r : Ppa.Bs) (w : World) : Prop where
  px : Px B b s st (s.size - r.length) A c p v w
  suf : r <:+ s.data.toList
  ev : EvB B w
  le : B ≤ b
  small : s.size ≤ 65536
  blk : w.heap[g]? = some (.cells cs 32 (0, 0))
  ne : g ≠ b
  n1 : v.ownBlock ≠ some g
  n2 : (Value.slice A st.nodes.length c).ownBlock ≠ some g
  low : B ≤ g
section
variable {B b g f : Nat} {s : ByteArray} {st : Ppa.St} {cs : Array Value} {A : Option Addr} {c : Nat} {p v : Value} {r r' : Ppa.Bs} {w w' : World} {args : Array Value}
theorem An.ps (h : An B b g s st cs A c p v r w) : Ps B b s st r w := h.px.ps h.suf h.ev h.le h.small
theorem An.lt (h : An B b g s st cs A c p v r w) : g < w.heap.size := (Array.getElem?_eq_some_iff.1 h.blk).1
theorem An.below (h : An B b g s st cs A c p v r w) (hb : Below w.heap.size w w') : An B b g s st cs A c p v r w' :=
  ⟨h.px.below hb, h.suf, h.ev.below (hb.mono h.ev.le), h.le, h.small, (hb.block g h.lt).trans h.blk, h.ne, h.n1, h.n2, h.low⟩
theorem An.pa (h : An B b g s st cs A c p v r w) : Pa B b s [.slice A st.nodes.length c, p, v, .int .i64 st.twice, .int .i64 st.deep] r w := ⟨h.px.blk, h.suf, h.ev, h.le, h.small⟩
theorem An.back (h : An B b g s st cs A c p v r w) (hP : Pa B b s [.slice A st.nodes.length c, p, v, .int .i64 st.twice, .int .i64 st.deep] r' w') (hg : w.grownBy w' (some b)) : An B b g s st cs A c p v r' w' :=
  ⟨⟨h.px.known, hP.row, h.px.buf.kept hg (.inr h.px.bufn), h.px.nds.kept hg (.inr h.px.ndsn)⟩, hP.suf, hP.ev, hP.le, hP.small, (hg.block g h.lt (by intro e; injection e with e; exact h.ne e)).trans h.blk, h.ne, h.n1, h.n2, h.low⟩
theorem An.new (h : Ps B b s st r w) : ∃ A c p v, ∀ cs, An B b w.heap.size s st cs A c p v r (w.alloc (.cells cs 32)) := by
  obtain ⟨A, c, p, v, X⟩ := h.px
  have hb : ∀ o, Below w.heap.size w (w.alloc o) := fun o => (Below.refl _ _).alloc (Nat.le_refl _) o
  have hlt := X.lt
  refine ⟨A, c, p, v, fun cs => ⟨X.below (hb _), h.suf, h.ev.below ((hb _).mono h.hB), h.le, h.small, heap_alloc_new _ _, by omega, fun e => ?_, fun e => ?_, h.hB⟩⟩
  · have := (X.buf.lt _ e).2
    omega
  · have := (X.nds.lt _ e).2
    omega
theorem An.cell (h : An B b g s st cs A c p v r w) {i : Nat} {x : Value} (hx : cs[i]? = some x) : w.cell? ⟨g, i, none⟩ = some x := by
  rw [cell_of_row w g _ _ _ _ h.blk]
  simpa using hx
theorem An.unf (h : An B b g s st cs A c p v r w) (i : Nat) : w.frozen? ⟨g, i, none⟩ = false := Joins.unfrozen_of_block h.blk _
theorem An.set (h : An B b g s st cs A c p v r w) (i : Nat) (u : Value) : An B b g s st (cs.setIfInBounds i u) A c p v r (w.setCell ⟨g, i, none⟩ u) :=
  ⟨⟨h.px.known, (Below.heap_setCell _ _ _ _ (fun e => h.ne e.symm)).trans h.px.blk, Flt.own_other h.px.buf h.n1, Flt.own_other h.px.nds h.n2⟩, h.suf, h.ev.below ((Below.refl B w).setCell (p := ⟨g, i, none⟩) h.low u), h.le, h.small, Joins.block_setCell h.blk u, h.ne, h.n1, h.n2, h.low⟩
theorem An.twice (h : An B b g s st cs A c p v r w) (z : Int) : An B b g s { st with twice := z } cs A c p v r (w.setCell ⟨b, 5, none⟩ (.int .i64 z)) :=
  ⟨h.px.twice z, h.suf, h.ev.below ((Below.refl B w).setCell (p := ⟨b, 5, none⟩) h.le _), h.le, h.small, (Below.heap_setCell _ _ _ _ h.ne).trans h.blk, h.ne, h.n1, h.n2, h.low⟩
theorem An.blanks (h : An B b g s st cs A c p v r w) : Calls Tryz.prog 56 #[.pointer (some ⟨b, 0, none⟩)] w fun e w' => e = .returned (.tuple #[]) ∧ An B b g s st cs A c p v (Ppa.blanksL r) w' ∧ Bel B b w w' :=
  (blanks_r h.pa).mono fun _ _ ⟨he, hp, hg⟩ => ⟨he, h.back hp hg, h.ps.grown hg⟩
theorem An.must_ok (l : List UInt8) (hl : l.all (fun c => decide (c.toNat < 128)) = true) (h : An B b g s st cs A c p v r w) (hm : Ppa.mustL l r = .ok r') :
    Calls Tryz.prog 57 #[.pointer (some ⟨b, 0, none⟩), .string ⟨l.toArray⟩] w fun e w' => e = .returned (.tuple #[]) ∧ An B b g s st cs A c p v r' w' ∧ Bel B b w w' :=
  (Wps.must_ok l hl h.pa hm).mono fun _ _ ⟨he, hp, hg⟩ => ⟨he, h.back hp hg, h.ps.grown hg⟩
theorem An.value_ok {vl : Ppa.Bs} (h : An B b g s st cs A c p v r w) (ht : Pch.textsL r = true) (hm : Ppa.valM r = .ok (vl, r')) :
    Calls Tryz.prog 115 #[.pointer (some ⟨b, 0, none⟩)] w fun e w' => e = .returned (.string ⟨vl.toArray⟩) ∧ An B b g s st cs A c p v r' w' ∧ Bel B b w w' :=
  (ways_ok (val := strV) (value_r h.pa ht) hm).mono fun _ _ ⟨he, hp, hg⟩ => ⟨he, h.back hp hg, h.ps.grown hg⟩
end
theorem own_some {w : World} {B n c : Nat} {A : Option Addr} {xs : List Value} (h : w.ownsRow B 32 4 (.slice A n c) n xs) (hn : 0 < n) : ∃ gN, A = some ⟨gN, 0, none⟩ ∧ n ≤ c ∧ gN < w.heap.size := by
  obtain ⟨gN, c', e, _, h2, h3⟩ := Flt.own_block h hn
  injection e with e1 _ e3
  exact ⟨gN, e1, by omega, h2⟩
/-- twice, behind a look at some nodes -/
def tw (st : Ppa.St) (nm : Ppa.Bs) (fr : Int) (L : List Ptr.Nd) : Int := if st.twice < 0 ∧ (L.any fun o => o.2.1 == nm) = true then fr else st.twice
theorem tw_nil (st : Ppa.St) (nm : Ppa.Bs) (fr : Int) : tw st nm fr [] = st.twice := by
  unfold tw
  rw [if_neg]
  rintro ⟨_, h⟩
  cases h
theorem tw_same {st : Ppa.St} {nm : Ppa.Bs} {fr : Int} {L : List Ptr.Nd} {x : Ptr.Nd} (h : ¬ (x.2.1 = nm ∧ tw st nm fr L < 0)) : tw st nm fr (L ++ [x]) = tw st nm fr L := by
  unfold tw at h ⊢
  rw [List.any_append]
  cases hL : (L.any fun o => o.2.1 == nm) with
  | true => simp
  | false =>
    rw [hL] at h
    have h' : ¬ (x.2.1 = nm ∧ st.twice < 0) := by simpa using h
    by_cases h0 : st.twice < 0
    · have hx : (x.2.1 == nm) = false := by simpa using fun e => h' ⟨e, h0⟩
      simp [hx]
    · simp [h0]
theorem tw_set {st : Ppa.St} {nm : Ppa.Bs} {fr : Int} {L : List Ptr.Nd} {x : Ptr.Nd} (h1 : x.2.1 = nm) (h2 : tw st nm fr L < 0) (hf : 0 ≤ fr) : tw st nm fr (L ++ [x]) = fr := by
  unfold tw at h2 ⊢
  have h0 : st.twice < 0 := by
    split at h2
    · omega
    · exact h2
  rw [if_pos ⟨h0, by rw [List.any_append]; simp [h1]⟩]
set_option maxRecDepth 100000 in
set_option maxHeartbeats 2000000 in
theorem attribute_ok {B b q : Nat} {s : ByteArray} {st : Ppa.St} {r r1 r2 r3 nm vl : Ppa.Bs} {w : World} (h : Ps B b s st r w) (hq : q < st.nodes.length) (hn1 : st.nodes.length ≤ 300000) (h1 : Ppa.nameM r = .ok (nm, r1)) (h2 : Ppa.mustL [61] (Ppa.blanksL r1) = .ok r2) (ht : Pch.textsL (Ppa.blanksL r2) = true) (h3 : Ppa.valM (Ppa.blanksL r2) = .ok (vl, r3)) :
    Calls Tryz.prog 88 #[.pointer (some ⟨b, 0, none⟩), .int .i64 (q : Int)] w fun e w' => WaysS B b s w (.tuple #[]) (.ok (r3, Ppa.add { st with twice := tw st nm ((s.size : Int) - r.length) (st.nodes.drop (q + 1)) } (3, nm, vl, (q : Int)))) e w' := by
  have B0 : Kept (Bel B b w w) := ⟨Bel.refl _ _ _⟩
  have hlen := h.len
  have hsm := h.small
  have K1 := Kept.mk h1
  have K2 := Kept.mk h2
  have K3 := Kept.mk h3
  have KT := Kept.mk ht
  obtain ⟨k, hk, c1⟩ := h.at_
  have hfr : (s.size : Int) - r.length = (k : Int) := by omega
  rw [hfr]
  clear h1 h2 h3 ht
  have i0 : (0 : Int) ≤ (q : Int) := by omega
  have i1 : (q : Int) + 1 ≤ (st.nodes.length : Int) := by omega
  have i3 : (st.nodes.length : Int) ≤ 300000 := by omega
  have TG0 : Kept True := ⟨trivial⟩
  go_enter Tryz.func88, Tryz.ntmps88
  go_wp2_with (first
    | (go_at_call 85; refine (name_s_ok h K1.out).mono ?_; rintro e w1 ⟨rfl, H1, hb1⟩; have B1 := Kept.mk (B0.out.trans hb1); clear hb1; obtain ⟨A, c, p, v, hAn⟩ := An.new H1; have H2 := hAn #[.int .u8 3, .string ⟨nm.toArray⟩, .string ⟨#[]⟩, .int .i64 (q : Int)]; have B2 := Kept.mk (B1.out.alloc H1.hB (.cells #[.int .u8 3, .string ⟨nm.toArray⟩, .string ⟨#[]⟩, .int .i64 (q : Int)] 32)); clear hAn)
    | (go_at_call 56; clear TG0; refine (An.blanks H2).mono ?_; rintro e w3 ⟨rfl, H3, hb3⟩; have B3 := Kept.mk (B2.out.trans hb3); clear hb3)
    | (go_at_call 57; refine (An.must_ok [61] (by decide) H3 K2.out).mono ?_; rintro e w4 ⟨rfl, H4, hb4⟩; have B4 := Kept.mk (B3.out.trans hb4); clear hb4)
    | (go_at_call 56; refine (An.blanks H4).mono ?_; rintro e w5 ⟨rfl, H5, hb5⟩; have B5 := Kept.mk (B4.out.trans hb5); clear hb5)
    | (go_at_call 115; refine (An.value_ok H5 KT.out K3.out).mono ?_; rintro e w6 ⟨rfl, H6, hb6⟩; have B6 := Kept.mk (B5.out.trans hb6); clear hb6; have n2 := H6.cell (i := 2) rfl; have f2 := H6.unf 2; have H7 := H6.set 2 (.string ⟨vl.toArray⟩); have B7 := Kept.mk (B6.out.setNd H6.low H6.blk 2 (.string ⟨vl.toArray⟩)); have d2 := H7.px.c2; have d5 := H7.px.c5; obtain ⟨gN, rfl, hcN, hgN⟩ := own_some H7.px.nds (by omega); have i2 : (st.nodes.length : Int) ≤ (c : Int) := (by omega)))
  all_goals
    have H8 : An B b w1.heap.size s { st with twice := tw st nm (k : Int) (List.take 0 (st.nodes.drop (q + 1))) } #[.int .u8 3, .string ⟨nm.toArray⟩, .string ⟨vl.toArray⟩, .int .i64 (q : Int)] (some ⟨gN, 0, none⟩) c p v r3 (w6.setCell ⟨w1.heap.size, 2, none⟩ (.string ⟨vl.toArray⟩)) := (by rw [List.take_zero, tw_nil]; exact H7)
    clear H1 H2 H3 H4 H5 H6 H7 n2 f2 d2 d5 c1 K1 K2 K3 KT
    generalize w6.setCell ⟨w1.heap.size, 2, none⟩ (.string ⟨vl.toArray⟩) = W at *
  · go_loopg [33] (st.nodes.length - (q + 1)) (fun g i wx => ∃ j : Nat, i = .int .i64 (j : Int) ∧ j + g = st.nodes.length - (q + 1) ∧ An B b w1.heap.size s { st with twice := tw st nm (k : Int) (List.take j (st.nodes.drop (q + 1))) } #[.int .u8 3, .string ⟨nm.toArray⟩, .string ⟨vl.toArray⟩, .int .i64 (q : Int)] (some ⟨gN, 0, none⟩) c p v r3 wx ∧ Kept (Bel B b w wx))
    case atStart => exact ⟨0, rfl, by omega, H8, B7⟩
    case round =>
      obtain ⟨j, rfl, hj, H, BW⟩ := hrel
      by_cases hlt : j < st.nodes.length - (q + 1)
      · exfalso
        omega
      · have j1 : ¬ (j : Int) < (st.nodes.length : Int) - ((q : Int) + 1) := by omega
        have n0 := H.cell (i := 0) rfl
        have n1 := H.cell (i := 1) rfl
        have n2 := H.cell (i := 2) rfl
        have n3 := H.cell (i := 3) rfl
        have ht : List.take j (st.nodes.drop (q + 1)) = st.nodes.drop (q + 1) := List.take_of_length_le (by rw [List.length_drop]; omega)
        rw [ht] at H
        have HA := Kept.mk (add_s3 nm vl (q : Int) H.ps (by show st.nodes.length ≤ 1000000; omega))
        clear H
        go_wp2_with (go_at_call 52; refine HA.out.mono ?_; rintro e w9 ⟨rfl, H9, hb9⟩)
        go_end0
        exact ⟨BW.out.trans hb9, rfl, H9⟩
  · go_loopg [33] (st.nodes.length - (q + 1)) (fun g i wx => ∃ j : Nat, i = .int .i64 (j : Int) ∧ j + g = st.nodes.length - (q + 1) ∧ An B b w1.heap.size s { st with twice := tw st nm (k : Int) (List.take j (st.nodes.drop (q + 1))) } #[.int .u8 3, .string ⟨nm.toArray⟩, .string ⟨vl.toArray⟩, .int .i64 (q : Int)] (some ⟨gN, 0, none⟩) c p v r3 wx ∧ Kept (Bel B b w wx))
    case atStart => exact ⟨0, rfl, by omega, H8, B7⟩
    case round =>
      obtain ⟨j, rfl, hj, H, BW⟩ := hrel
      by_cases hlt : j < st.nodes.length - (q + 1)
      · obtain ⟨x, hx⟩ : ∃ x, st.nodes[q + 1 + j]? = some x := ⟨_, List.getElem?_eq_getElem (by omega)⟩
        have hd : (st.nodes.drop (q + 1))[j]? = some x := by rw [List.getElem?_drop]; exact hx
        have htk : List.take (j + 1) (st.nodes.drop (q + 1)) = List.take j (st.nodes.drop (q + 1)) ++ [x] := by rw [List.take_add_one, hd]; rfl
        obtain ⟨kx, nx, vx, px⟩ := x
        have hc := fun i u hi (hu : (Wtr.ndC (kx, nx, vx, px))[i]? = some u) => Flt.own_at H.px.nds ((q + 1 + j) * 4 + i) u (by rw [Wtr.ndsC_get st.nodes (q + 1 + j) _ i hx hi]; exact hu)
        simp only [show (q + 1 + j) * 4 = (q + 1) * 4 + j * 4 by omega] at hc
        have x0 := hc 0 _ (by omega) rfl
        have x1 := hc 1 _ (by omega) rfl
        have x2 := hc 2 _ (by omega) rfl
        have x3 := hc 3 _ (by omega) rfl
        simp only [Nat.add_zero] at x0 x1 x2 x3
        clear hc
        have j0 : (0 : Int) ≤ (j : Int) := by omega
        have j1 : (j : Int) < (st.nodes.length : Int) - ((q : Int) + 1) := by omega
        have hgW := H.lt
        have hbW := H.px.lt
        have n1 := H.cell (i := 1) rfl
        have d5 := H.px.c5
        have f5 := H.px.unf 5
        have HO : An B b w1.heap.size s { st with twice := tw st nm (k : Int) (List.take j (st.nodes.drop (q + 1))) } #[.int .u8 3, .string ⟨nm.toArray⟩, .string ⟨vl.toArray⟩, .int .i64 (q : Int)] (some ⟨gN, 0, none⟩) c p v r3 (wr.alloc (.cells #[.int .u8 kx, .string ⟨nx.toArray⟩, .string ⟨vx.toArray⟩, .int .i64 px] 32)) := H.below ((Below.refl _ _).alloc (Nat.le_refl _) _)
        have BO := Kept.mk (BW.out.alloc H.ps.hB (.cells #[.int .u8 kx, .string ⟨nx.toArray⟩, .string ⟨vx.toArray⟩, .int .i64 px] 32))
        have o1 : (wr.alloc (.cells #[.int .u8 kx, .string ⟨nx.toArray⟩, .string ⟨vx.toArray⟩, .int .i64 px] 32)).cell? ⟨wr.heap.size, 1, none⟩ = some (.string ⟨nx.toArray⟩) := by rw [World.cell?_alloc_new]; rfl
        obtain ⟨T, hT⟩ : ∃ T, tw st nm (k : Int) (List.take j (st.nodes.drop (q + 1))) = T := ⟨_, rfl⟩
        have HS := fun h => tw_same (st := st) (nm := nm) (fr := (k : Int)) (L := List.take j (st.nodes.drop (q + 1))) (x := (kx, nx, vx, px)) h
        have HE := fun h h2 => tw_set (st := st) (nm := nm) (fr := (k : Int)) (L := List.take j (st.nodes.drop (q + 1))) (x := (kx, nx, vx, px)) h h2 (by omega)
        rw [← htk, hT] at HS HE
        dsimp only at HS HE d5
        rw [hT] at H HO d5
        have HO' := Kept.mk HO
        have HS' := Kept.mk HS
        have HE' := Kept.mk HE
        have HH := Kept.mk H
        obtain ⟨g, rfl⟩ : ∃ g, gk = g + 1 := ⟨gk - 1, by omega⟩
        clear HO HS HE htk hd hx hT H H8
        by_cases he : nx = nm
        · subst he
          by_cases hT0 : T < 0
          · have HX := Kept.mk (HE'.out rfl hT0)
            go_wp2
            go_roundg g
            case measure => omega
            case rel =>
              refine ⟨j + 1, by go_num, by omega, ?_, ⟨?_⟩⟩
              · rw [HX.out]
                exact (HH.out.twice (k : Int)).below ((Below.refl _ _).alloc (Nat.le_refl _) _)
              · exact (BW.out.setCell (p := ⟨b, 5, none⟩) HH.out.le _).alloc (by simp; exact HH.out.ps.hB) _
          · have HX := Kept.mk (HS'.out (fun h => hT0 h.2))
            go_wp2
            go_roundg g
            case measure => omega
            case rel =>
              refine ⟨j + 1, by go_num, by omega, ?_, BO⟩
              rw [HX.out]
              exact HO'.out
        · have HX := Kept.mk (HS'.out (fun h => he h.1))
          go_wp2
          go_roundg g
          case measure => omega
          case rel =>
            refine ⟨j + 1, by go_num, by omega, ?_, BO⟩
            rw [HX.out]
            exact HO'.out
      · have j1 : ¬ (j : Int) < (st.nodes.length : Int) - ((q : Int) + 1) := by omega
        have n0 := H.cell (i := 0) rfl
        have n1 := H.cell (i := 1) rfl
        have n2 := H.cell (i := 2) rfl
        have n3 := H.cell (i := 3) rfl
        have ht : List.take j (st.nodes.drop (q + 1)) = st.nodes.drop (q + 1) := List.take_of_length_le (by rw [List.length_drop]; omega)
        rw [ht] at H
        have HA := Kept.mk (add_s3 nm vl (q : Int) H.ps (by show st.nodes.length ≤ 1000000; omega))
        clear H
        go_wp2_with (go_at_call 52; refine HA.out.mono ?_; rintro e w9 ⟨rfl, H9, hb9⟩)
        go_end0
        exact ⟨BW.out.trans hb9, rfl, H9⟩
set_option maxRecDepth 100000 in
set_option maxHeartbeats 2000000 in
theorem attr_name {B b q : Nat} {s : ByteArray} {st : Ppa.St} {r r1 : Ppa.Bs} {w : World} (h : Ps B b s st r w) (h1 : Ppa.nameM r = .error r1) :
    Calls Tryz.prog 88 #[.pointer (some ⟨b, 0, none⟩), .int .i64 (q : Int)] w fun e w' => WaysS B b s w (.tuple #[]) (.error r1) e w' := by
  have B0 : Kept (Bel B b w w) := ⟨Bel.refl _ _ _⟩
  have hsm := h.small
  obtain ⟨k, hk, c1⟩ := h.at_
  have K1 := Kept.mk h1
  clear h1
  go_enter Tryz.func88, Tryz.ntmps88
  go_wp2_with (go_at_call 85; refine (name_s_no h K1.out).mono ?_; rintro e w1 ⟨rfl, hl1, hb1⟩)
  exact ⟨rfl, hb1, rfl, hl1⟩
set_option maxRecDepth 100000 in
set_option maxHeartbeats 2000000 in
theorem attr_must {B b q : Nat} {s : ByteArray} {st : Ppa.St} {r r1 r2 nm : Ppa.Bs} {w : World} (h : Ps B b s st r w) (h1 : Ppa.nameM r = .ok (nm, r1)) (h2 : Ppa.mustL [61] (Ppa.blanksL r1) = .error r2) :
    Calls Tryz.prog 88 #[.pointer (some ⟨b, 0, none⟩), .int .i64 (q : Int)] w fun e w' => WaysS B b s w (.tuple #[]) (.error r2) e w' := by
  have B0 : Kept (Bel B b w w) := ⟨Bel.refl _ _ _⟩
  have hsm := h.small
  obtain ⟨k, hk, c1⟩ := h.at_
  have K1 := Kept.mk h1
  have K2 := Kept.mk h2
  have TG0 : Kept True := ⟨trivial⟩
  clear h1 h2
  go_enter Tryz.func88, Tryz.ntmps88
  go_wp2_with (first
    | (go_at_call 85; refine (name_s_ok h K1.out).mono ?_; rintro e w1 ⟨rfl, H1, hb1⟩; have B1 := Kept.mk (B0.out.trans hb1); clear hb1; have H2 := H1.below ((Below.refl _ _).alloc (Nat.le_refl _) (.cells #[.int .u8 3, .string ⟨nm.toArray⟩, .string ⟨#[]⟩, .int .i64 (q : Int)] 32)); have B2 := Kept.mk (B1.out.alloc H1.hB (.cells #[.int .u8 3, .string ⟨nm.toArray⟩, .string ⟨#[]⟩, .int .i64 (q : Int)] 32)))
    | (go_at_call 56; clear TG0; refine (blanks_s H2).mono ?_; rintro e w3 ⟨rfl, H3, hb3⟩; have B3 := Kept.mk (B2.out.trans hb3); clear hb3)
    | (go_at_call 57; refine (must_s_no [61] (by decide) H3 K2.out).mono ?_; rintro e w4 ⟨rfl, hl4, hb4⟩; have B4 := Kept.mk (B3.out.trans hb4); clear hb4))
  exact ⟨rfl, B4.out, rfl, hl4⟩
set_option maxRecDepth 100000 in
set_option maxHeartbeats 2000000 in
theorem attr_value {B b q : Nat} {s : ByteArray} {st : Ppa.St} {r r1 r2 r3 nm : Ppa.Bs} {w : World} (h : Ps B b s st r w) (h1 : Ppa.nameM r = .ok (nm, r1)) (h2 : Ppa.mustL [61] (Ppa.blanksL r1) = .ok r2) (ht : Pch.textsL (Ppa.blanksL r2) = true) (h3 : Ppa.valM (Ppa.blanksL r2) = .error r3) :
    Calls Tryz.prog 88 #[.pointer (some ⟨b, 0, none⟩), .int .i64 (q : Int)] w fun e w' => WaysS B b s w (.tuple #[]) (.error r3) e w' := by
  have B0 : Kept (Bel B b w w) := ⟨Bel.refl _ _ _⟩
  have hsm := h.small
  obtain ⟨k, hk, c1⟩ := h.at_
  have K1 := Kept.mk h1
  have K2 := Kept.mk h2
  have K3 := Kept.mk h3
  have KT := Kept.mk ht
  have TG0 : Kept True := ⟨trivial⟩
  clear h1 h2 h3 ht
  go_enter Tryz.func88, Tryz.ntmps88
  go_wp2_with (first
    | (go_at_call 85; refine (name_s_ok h K1.out).mono ?_; rintro e w1 ⟨rfl, H1, hb1⟩; have B1 := Kept.mk (B0.out.trans hb1); clear hb1; have H2 := H1.below ((Below.refl _ _).alloc (Nat.le_refl _) (.cells #[.int .u8 3, .string ⟨nm.toArray⟩, .string ⟨#[]⟩, .int .i64 (q : Int)] 32)); have B2 := Kept.mk (B1.out.alloc H1.hB (.cells #[.int .u8 3, .string ⟨nm.toArray⟩, .string ⟨#[]⟩, .int .i64 (q : Int)] 32)))
    | (go_at_call 56; clear TG0; refine (blanks_s H2).mono ?_; rintro e w3 ⟨rfl, H3, hb3⟩; have B3 := Kept.mk (B2.out.trans hb3); clear hb3)
    | (go_at_call 57; refine (must_s_ok [61] (by decide) H3 K2.out).mono ?_; rintro e w4 ⟨rfl, H4, hb4⟩; have B4 := Kept.mk (B3.out.trans hb4); clear hb4)
    | (go_at_call 56; refine (blanks_s H4).mono ?_; rintro e w5 ⟨rfl, H5, hb5⟩; have B5 := Kept.mk (B4.out.trans hb5); clear hb5)
    | (go_at_call 115; refine (value_s_no H5 KT.out K3.out).mono ?_; rintro e w6 ⟨rfl, hl6, hb6⟩; have B6 := Kept.mk (B5.out.trans hb6); clear hb6))
  exact ⟨rfl, B6.out, rfl, hl6⟩
theorem attribute_s {B b q : Nat} {s : ByteArray} {st : Ppa.St} {r : Ppa.Bs} {w : World} (h : Ps B b s st r w) (hm : Ppa.meas st r ≤ 300000) (ht : Pch.textsL r = true) (hq : q < st.nodes.length) :
    Calls Tryz.prog 88 #[.pointer (some ⟨b, 0, none⟩), .int .i64 (q : Int)] w fun e w' => WaysS B b s w (.tuple #[]) (Ppa.attrM s.size q r st) e w' := by
  unfold Ppa.attrM
  cases h1 : Ppa.nameM r with
  | error r1 => exact attr_name h h1
  | ok q1 =>
    obtain ⟨nm, r1⟩ := q1
    dsimp only
    have t1 := (Ppa.nameM_ok h1).2.2 ht
    cases h2 : Ppa.mustL [61] (Ppa.blanksL r1) with
    | error r2 => exact attr_must h h1 h2
    | ok r2 =>
      dsimp only
      have t2 := Ppa.blanksL_texts (mustL_texts _ _ _ (by decide) (Ppa.blanksL_texts t1) h2)
      cases h3 : Ppa.valM (Ppa.blanksL r2) with
      | error r3 => exact attr_value h h1 h2 t2 h3
      | ok q3 =>
        obtain ⟨vl, r3⟩ := q3
        exact attribute_ok h hq (by unfold Ppa.meas at hm; omega) h1 h2 t2 h3
end Go.Proofs.YtemfmidhekdekaaGreatDoor.Wps
namespace Go.Proofs.YtemfmidhekdekaaGreatDoor.Wps
open Go Go.RowKit Go.Proofs.YtemfmidhekdekaaGreatDoor.Kb Go.Proofs.YtemfmidhekdekaaGreatDoor.Wch Go.Proofs.YtemfmidhekdekaaGreatDoor.Emk

theorem peek_has {r : Ppa.Bs} (h : r ≠ []) : Ppa.peek r = ((Lib.decodeL r).1 : Int) := by unfold Ppa.peek; rw [if_neg h]
theorem again_eq {f : Nat} {n r : Ppa.Bs} (hn : n ≠ []) (h : Ppa.peek r = Ppa.peek n) : Ppa.againF (f + 1) n r = Ppa.againF f (Ppa.skip n) (Ppa.skip r) := by
  rw [Ppa.againF, if_neg hn, if_pos h]
theorem again_ne {f : Nat} {n r : Ppa.Bs} (hn : n ≠ []) (h : ¬ Ppa.peek r = Ppa.peek n) : Ppa.againF (f + 1) n r = .error r := by
  rw [Ppa.againF, if_neg hn, if_neg h]
theorem again_nil (f : Nat) (r : Ppa.Bs) : Ppa.againF f [] r = .ok r := by
  cases f with
  | zero => rfl
  | succ f => rw [Ppa.againF, if_pos rfl]
set_option maxRecDepth 100000 in
/-- must, at any text -/
theorem again_r {B b : Nat} {s : ByteArray} {x : List Value} {r : Ppa.Bs} {w : World} (a : ByteArray) (h : Pa B b s x r w) :
    Calls Tryz.prog 57 #[.pointer (some ⟨b, 0, none⟩), .string a] w fun e w' => Ways B b s x w (.tuple #[]) (Ppa.againL a.data.toList r) e w' := by
  have hlt := h.row.lt
  have hB0 : B ≤ w.heap.size := h.ev.le
  have hT : Ppa.againF a.size (a.data.toList.drop 0) r = Ppa.againL a.data.toList r := by unfold Ppa.againL; rw [size_len, List.drop_zero]
  generalize Ppa.againL a.data.toList r = T at hT
  have HT := Kept.mk hT
  clear hT
  go_enter Tryz.func57, Tryz.ntmps57
  go_wp2
  go_loopg [] a.size (fun g wx => ∃ (pos : Nat) (r' : Ppa.Bs), wx.heap[w.heap.size]? = some (.stringIter a pos) ∧ Pa B b s x r' wx ∧ Kept (w.grownBy wx (some b)) ∧ Kept (Ppa.againF g (a.data.toList.drop pos) r' = T) ∧ a.size ≤ pos + g)
  case atStart => exact ⟨0, r, World.iter_heap w a 0, h.below ((Below.refl _ w).alloc (Nat.le_refl _) _), ⟨grown_of_below ((Below.refl _ w).alloc (Nat.le_refl _) _) _⟩, HT, by omega⟩
  case round =>
    obtain ⟨pos, r', hit, hP, G, HE, hle⟩ := hrel
    have hsz : w.heap.size < wr.heap.size := (Array.getElem?_eq_some_iff.1 hit).1
    by_cases hp : pos < a.size
    · obtain ⟨g, rfl⟩ : ∃ g, gk = g + 1 := ⟨gk - 1, by omega⟩
      have hne : a.data.toList.drop pos ≠ [] := by
        intro e
        have := congrArg List.length e
        rw [List.length_drop, size_len] at this
        simp at this
        omega
      have hnx : ∀ ty, (Instr.next (.pointer (some ⟨w.heap.size, 0, none⟩)) true ty).run Tryz.prog wr = _ := fun ty => Lib.run_next_any_at wr w.heap.size a pos ty hit hp
      rw [← Lib.decodeL_drop] at hnx
      have hw1 := Lib.decodeL_width (a.data.toList.drop pos)
      have hsk : Ppa.skip (a.data.toList.drop pos) = a.data.toList.drop (pos + (Lib.decodeL (a.data.toList.drop pos)).2) := by unfold Ppa.skip; rw [List.drop_drop]
      have hpn := peek_has hne
      have h1 := HE.out
      have hst := fun e => again_eq (f := g) (r := r') hne e
      have hno := fun e => again_ne (f := g) (r := r') hne e
      rw [hsk] at hst
      rw [hpn] at hst hno
      generalize hD : Lib.decodeL (a.data.toList.drop pos) = D at hnx hw1 hst hno
      obtain ⟨c, d⟩ := D
      dsimp only at hnx hw1 hst hno
      have hit2 := Lib.iterAt_heap wr w.heap.size a pos (pos + d) hit
      have hP2 := hP.iter (k := w.heap.size) hB0 (by omega) a (pos + d)
      have hG2 := grown_iter G.out a (pos + d)
      obtain ⟨W, hWd⟩ : ∃ W, wr.iterAt w.heap.size a (pos + d) = W := ⟨_, rfl⟩
      rw [hWd] at hnx hit2 hP2 hG2
      have hWs : w.heap.size < W.heap.size := (Array.getElem?_eq_some_iff.1 hit2).1
      have HG2 := Kept.mk hG2
      clear hG2 hit hP hWd hD hpn hsk HE G
      by_cases hq : Ppa.peek r' = (c : Int)
      · rw [hst hq] at h1
        have H2 := Kept.mk h1
        have CM := Kept.mk (may_r (c : Int) (by omega) hP2)
        rw [decide_eq_true hq, if_pos hq] at CM
        clear hq hst hno h1
        go_wp2_with (go_at_call 58; refine CM.out.mono ?_; rintro e w1 ⟨rfl, hP1, hg1⟩; have G1 := Kept.mk hg1; clear hg1)
        go_roundg g
        case measure => omega
        case rel => exact ⟨pos + d, Ppa.skip r', (G1.out.block _ hWs (by intro e; injection e with e; omega)).trans hit2, hP1, ⟨HG2.out.trans G1.out⟩, H2, by omega⟩
      · rw [hno hq] at h1
        have HX := Kept.mk h1.symm
        have CM := Kept.mk (may_r (c : Int) (by omega) hP2)
        rw [decide_eq_false hq, if_neg hq] at CM
        clear hq hst hno h1
        go_wp2_with (first | (go_at_call 58; refine CM.out.mono ?_; rintro e w1 ⟨rfl, hP1, hg1⟩; have G1 := Kept.mk hg1; clear hg1) | (go_at_call 61; refine (no_r hP1).mono ?_; rintro e w2 ⟨rfl, rfl⟩))
        exact ⟨rfl, HG2.out.trans G1.out, by rw [HX.out]; exact ⟨rfl, hP1.len⟩⟩
    · have hnx : ∀ ty, (Instr.next (.pointer (some ⟨w.heap.size, 0, none⟩)) true ty).run Tryz.prog wr = _ := fun ty => Lib.run_next_end_at wr w.heap.size a pos ty hit hp
      have h1 := HE.out
      rw [List.drop_eq_nil_of_le (by rw [size_len]; omega), again_nil] at h1
      have H1 := Kept.mk h1.symm
      clear h1 HE
      go_wp2
      go_end0
      exact ⟨G.out, by rw [H1.out]; exact ⟨rfl, hP⟩⟩
theorem again_s_ok {B b : Nat} {s : ByteArray} {st : Ppa.St} {r t nm : Ppa.Bs} {w : World} (h : Ps B b s st r w) (hm : Ppa.againL nm r = .ok t) :
    Calls Tryz.prog 57 #[.pointer (some ⟨b, 0, none⟩), .string ⟨nm.toArray⟩] w fun e w' => e = .returned (.tuple #[]) ∧ Ps B b s st t w' ∧ Bel B b w w' := h.way_ok (fun _ hP => again_r ⟨nm.toArray⟩ hP) hm
theorem again_s_no {B b : Nat} {s : ByteArray} {st : Ppa.St} {r t nm : Ppa.Bs} {w : World} (h : Ps B b s st r w) (hm : Ppa.againL nm r = .error t) :
    Calls Tryz.prog 57 #[.pointer (some ⟨b, 0, none⟩), .string ⟨nm.toArray⟩] w fun e w' => Gone (s.size - t.length) e ∧ t.length ≤ s.size ∧ Bel B b w w' := h.way_no (fun _ hP => again_r ⟨nm.toArray⟩ hP) hm
end Go.Proofs.YtemfmidhekdekaaGreatDoor.Wps
namespace Go.Proofs.YtemfmidhekdekaaGreatDoor.Wps
open Go Go.RowKit Go.Proofs.YtemfmidhekdekaaGreatDoor.Kb Go.Proofs.YtemfmidhekdekaaGreatDoor.Wch Go.Proofs.YtemfmidhekdekaaGreatDoor.Emk

/-- what a content is read as, at so much fuel -/
def ContC (B b : Nat) (s : ByteArray) (f : Nat) : Prop := ∀ (p : Int) (d : Nat) (st : Ppa.St) (r : Ppa.Bs) (w : World) (o : Except Ppa.Bs (Ppa.Bs × Ppa.St)), Ps B b s st r w → Ppa.meas st r ≤ 300000 → Pch.textsL r = true → -1 ≤ p → p ≤ 300000 → d + r.length ≤ 100000 → Ppa.contF s.size f p d 0 r st = some o →
  Calls Tryz.prog 42 #[.pointer (some ⟨b, 0, none⟩), .int .i64 p, .int .i64 (d : Int)] w fun e w' => WaysS B b s w (.tuple #[]) o e w'
/-- an element, behind its attributes -/
def tailM (N f : Nat) (nm : Ppa.Bs) (q d : Nat) : Except Ppa.Bs (Ppa.Bs × Ppa.St) → Option (Except Ppa.Bs (Ppa.Bs × Ppa.St))
  | .error r2 => some (.error r2)
  | .ok (r2, s2) => match r2 with
    | 47 :: t => some (match Ppa.mustL [62] t with | .ok r3 => .ok (r3, s2) | .error r3 => .error r3)
    | r2 => match Ppa.mustL [62] r2 with
      | .error r3 => some (.error r3)
      | .ok r3 => match Ppa.contF N f (q : Int) d 0 r3 s2 with
        | none => none
        | some (.error r4) => some (.error r4)
        | some (.ok (r4, s4)) => some (match Ppa.closeM nm r4 with | .error r6 => .error r6 | .ok r6 => .ok (r6, s4))
theorem tail_slash (N f : Nat) (nm : Ppa.Bs) (q d : Nat) (t : Ppa.Bs) (s2 : Ppa.St) : tailM N f nm q d (.ok (47 :: t, s2)) = some (match Ppa.mustL [62] t with | .ok r3 => .ok (r3, s2) | .error r3 => .error r3) := rfl
theorem tail_no {N f : Nat} {nm : Ppa.Bs} {q d : Nat} {r2 r3 : Ppa.Bs} {s2 : Ppa.St} (h47 : r2.head? ≠ some 47) (hm : Ppa.mustL [62] r2 = .error r3) : tailM N f nm q d (.ok (r2, s2)) = some (.error r3) := by
  unfold tailM
  dsimp only
  split
  · exact absurd rfl h47
  · rw [hm]
theorem tail_cont {N f : Nat} {nm : Ppa.Bs} {q d : Nat} {r2 r3 : Ppa.Bs} {s2 : Ppa.St} (h47 : r2.head? ≠ some 47) (hm : Ppa.mustL [62] r2 = .ok r3) : tailM N f nm q d (.ok (r2, s2)) = match Ppa.contF N f (q : Int) d 0 r3 s2 with
        | none => none
        | some (.error r4) => some (.error r4)
        | some (.ok (r4, s4)) => some (match Ppa.closeM nm r4 with | .error r6 => .error r6 | .ok r6 => .ok (r6, s4)) := by
  unfold tailM
  dsimp only
  split
  · exact absurd rfl h47
  · rw [hm]
theorem elemS_text (N : Nat) (p : Int) (d : Nat) (r nm : Ppa.Bs) (st : Ppa.St) : 0 < (Ppa.elemS N p d r nm st).nodes.length := by
  unfold Ppa.elemS Ppa.add
  simp
theorem pred_lt {n : Nat} (h : 0 < n) : n.pred < n := Nat.pred_lt (by omega)
theorem blankC_ne {y : UInt8} (h : Pch.blankC y = true) (c : UInt8) (hc : Pch.blankC c = false) : y ≠ c := fun e => by rw [e, hc] at h; cases h
theorem attrs_stop {N q f : Nat} {r : Ppa.Bs} {st : Ppa.St} (h : blankH r = false) : Ppa.attrsF N q (f + 1) r st = some (.ok (r, st)) := by
  cases r with
  | nil => rw [Ppa.attrsF]
  | cons x t =>
    rw [Ppa.attrsF, if_neg (by rw [show Pch.blankC x = blankH (x :: t) from rfl, h]; decide)]
theorem attrs_end {N q f : Nat} {r u : Ppa.Bs} {c : UInt8} {st : Ppa.St} (h : blankH r = true) (hu : Ppa.blanksL r = c :: u) (hc : c = 47 ∨ c = 62) : Ppa.attrsF N q (f + 1) r st = some (.ok (c :: u, st)) := by
  cases r with
  | nil => cases h
  | cons x t =>
    rw [Ppa.attrsF, if_pos (show Pch.blankC x = true from h), hu]
    rcases hc with rfl | rfl <;> rfl
theorem attrs_more {N q f : Nat} {r : Ppa.Bs} {st : Ppa.St} (h : blankH r = true) (h1 : (Ppa.blanksL r).head? ≠ some 47) (h2 : (Ppa.blanksL r).head? ≠ some 62) : Ppa.attrsF N q (f + 1) r st = match Ppa.attrM N q (Ppa.blanksL r) st with | .ok (r', s') => Ppa.attrsF N q f r' s' | .error r' => some (.error r') := by
  cases r with
  | nil => cases h
  | cons x t =>
    rw [Ppa.attrsF, if_pos (show Pch.blankC x = true from h)]
    generalize Ppa.blanksL (x :: t) = z at h1 h2
    split
    · exact absurd rfl h1
    · exact absurd rfl h2
    · rfl
theorem blanks_shorter {r : Ppa.Bs} (h : blankH r = true) : (Ppa.blanksL r).length < r.length := by
  cases r with
  | nil => cases h
  | cons x t =>
    rw [blanksL_of_true h]
    have := (Ppa.blanksL_suf t).length_le
    simp only [List.length_cons]
    omega
/-- where an element's attributes stand -/
structure At_ (B b : Nat) (s : ByteArray) (q : Nat) (L : Nat) (oA : Except Ppa.Bs (Ppa.Bs × Ppa.St)) (g : Nat) (st : Ppa.St) (r : Ppa.Bs) (w : World) : Prop where
  ps : Ps B b s st r w
  m : Ppa.meas st r ≤ 300000
  tx : Pch.textsL r = true
  eq : Ppa.attrsF s.size q g r st = some oA
  node : q < st.nodes.length
  len : r.length ≤ L
theorem waysS_ok {B b f : Nat} {s : ByteArray} {w : World} {args : Array Value} {v : Value} {o : Except Ppa.Bs (Ppa.Bs × Ppa.St)} {st : Ppa.St} {r : Ppa.Bs} (h : Calls Tryz.prog f args w fun e w' => WaysS B b s w v o e w') (ho : o = .ok (r, st)) :
    Calls Tryz.prog f args w fun e w' => e = .returned v ∧ Ps B b s st r w' ∧ Bel B b w w' := by
  subst ho
  exact h.mono fun _ _ ⟨hb, he, hp⟩ => ⟨he, hp, hb⟩
theorem waysS_no {B b f : Nat} {s : ByteArray} {w : World} {args : Array Value} {v : Value} {o : Except Ppa.Bs (Ppa.Bs × Ppa.St)} {r : Ppa.Bs} (h : Calls Tryz.prog f args w fun e w' => WaysS B b s w v o e w') (ho : o = .error r) :
    Calls Tryz.prog f args w fun e w' => Gone (s.size - r.length) e ∧ r.length ≤ s.size ∧ Bel B b w w' := by
  subst ho
  exact h.mono fun _ _ ⟨hb, he, hp⟩ => ⟨he, hp, hb⟩
set_option maxRecDepth 100000 in
set_option maxHeartbeats 4000000 in
theorem element_a {B b f d : Nat} {s : ByteArray} {st : Ppa.St} {r r1 nm : Ppa.Bs} {w : World} (p : Int) (hC : ContC B b s f) (h : Ps B b s st r w) (hm : Ppa.meas st r ≤ 300000) (ht : Pch.textsL r = true) (hd : d + r.length ≤ 100000) (h1 : Ppa.nameM r = .ok (nm, r1)) {oA o : Except Ppa.Bs (Ppa.Bs × Ppa.St)} (ha : Ppa.attrsF s.size (Ppa.elemS s.size p d r nm st).nodes.length.pred (f + 1) r1 (Ppa.elemS s.size p d r nm st) = some oA) (ho : tailM s.size f nm (Ppa.elemS s.size p d r nm st).nodes.length.pred d oA = some o) (hr : 1 ≤ s.size - r.length)
    (hA : ¬ 60 < d) :
    Calls Tryz.prog 62 #[.pointer (some ⟨b, 0, none⟩), .int .i64 p, .int .i64 (d : Int)] w fun e w' => WaysS B b s w (.tuple #[]) o e w' := by
  have B0 : Kept (Bel B b w w) := ⟨Bel.refl _ _ _⟩
  have hsm := h.small
  have hlen := h.len
  obtain ⟨k, hk, c1⟩ := h.at_
  have t1 := (Ppa.nameM_ok h1).2.2 ht
  have l1 := Ppa.nameM_lt h1
  have m1 := meas_small (Ppa.nameM_suf h1) hm
  have hS : Ppa.elemS s.size p d r nm st = Ppa.add st (2, nm, [], p) := by
    unfold Ppa.elemS
    rw [if_neg (fun h => hA h.1)]
  have hpos := elemS_text s.size p d r nm st
  have hms := Ppa.elemS_meas s.size p d r nm st r1
  have hm2 := Ppa.meas_lt (s := st) (r := r) (r' := r1) (k := 1) (by omega)
  have hq : (Ppa.elemS s.size p d r nm st).nodes.length.pred = (Ppa.flush st p).nodes.length := by rw [hS, add_other (by decide)]; simp
  rw [hq] at ha ho
  rw [hS] at ha hpos hms hq
  have hsz : (Ppa.add st (2, nm, [], p)).nodes.length = (Ppa.flush st p).nodes.length + 1 := by rw [add_other (by decide)]; simp
  generalize hQ : (Ppa.flush st p).nodes.length = q at ha ho hsz
  have K1 := Kept.mk h1
  have KA := Kept.mk ha
  have KO := Kept.mk ho
  have KT := Kept.mk t1
  have KQ := Kept.mk hQ
  have KS := Kept.mk hsz
  have KM2 : Kept (Ppa.meas (Ppa.add st (2, nm, [], p)) r1 ≤ 300000) := ⟨by omega⟩
  have KM : Kept (Ppa.meas (Ppa.add st (2, nm, [], p)) r1 ≤ 300000) := ⟨by omega⟩
  have i0 : (1 : Int) ≤ (k : Int) := by omega
  have i1 : (k : Int) ≤ 65536 := by omega
  have i2 : ¬ (60 : Int) < (d : Int) := by omega
  have TG0 : Kept True := ⟨trivial⟩
  have TG1 : Kept True := ⟨trivial⟩
  clear h1 ha ho t1 hQ hS hsz hms hm2 hpos hq
  go_enter Tryz.func62, Tryz.ntmps62
  go_upto_block 0 with (first
    | (go_at_call 85; refine (name_s_ok h K1.out).mono ?_; rintro e w1 ⟨rfl, H1, hb1⟩; have B1 := Kept.mk (B0.out.trans hb1); clear hb1)
    | (go_at_call 52; refine (add_t 2 (by decide) nm [] p H1 m1).mono ?_; rintro e w2 ⟨rfl, H2, hb2⟩; rw [KQ.out]; have B2 := Kept.mk (B1.out.trans hb2); clear hb2))
  go_cut [9] from 35 to 49 (fun _ wx => ∃ r2 st2, Kept (oA = .ok (r2, st2)) ∧ Ps B b s st2 r2 wx ∧ Kept (Bel B b w wx) ∧ Kept (Ppa.meas st2 r2 ≤ 300000) ∧ Kept (Pch.textsL r2 = true) ∧ r2.length ≤ r1.length)
  case first =>
    go_wp2_with fail
    go_loopg [9] (f + 1) (fun g _ wx => ∃ r' st', At_ B b s q r1.length oA g st' r' wx ∧ Kept (Bel B b w wx))
    case atStart => exact ⟨r1, _, ⟨H2, KM.out, KT.out, KA.out, by rw [KS.out]; omega, Nat.le_refl _⟩, B2⟩
    case round =>
      obtain ⟨r', st', V, BW⟩ := hrel
      obtain ⟨g, rfl⟩ : ∃ g, gk = g + 1 := by
        cases gk with
        | zero => have h2 := V.eq; rw [Ppa.attrsF] at h2; cases h2
        | succ g => exact ⟨g, rfl⟩
      clear H1 H2 K1 KA KT KM
      cases hb : blankH r' with
      | false =>
        have HX : Kept (oA = .ok (r', st')) := ⟨by have h2 := V.eq; rw [attrs_stop hb] at h2; injection h2 with h2; exact h2.symm⟩
        have KB := Kept.mk hb
        clear hb
        go_wp2_with (go_at_call 84; refine (blank_t V.ps KB.out).mono ?_; rintro e w3 ⟨rfl, H3, hb3⟩; have B3 := Kept.mk (BW.out.trans hb3); clear hb3)
        go_meet
        case rel => exact ⟨r', st', HX, H3, B3, ⟨V.m⟩, ⟨V.tx⟩, V.len⟩
      | true =>
        have KB := Kept.mk hb
        have hz := blanks_shorter hb
        have htx := Ppa.blanksL_texts V.tx
        have hme := meas_small (Ppa.blanksL_suf r') V.m
        by_cases h47 : (Ppa.blanksL r').head? = some 47
        · obtain ⟨u, hu⟩ := head_cons h47
          have HX : Kept (oA = .ok (47 :: u, st')) := ⟨by have h2 := V.eq; rw [attrs_end hb hu (.inl rfl)] at h2; injection h2 with h2; exact h2.symm⟩
          have HP : Kept (Ppa.peek (Ppa.blanksL r') = 47) := ⟨(peek_is 47 (by decide) _).2 h47⟩
          have HU := Kept.mk hu
          have HT := Kept.mk htx
          have HM := Kept.mk hme
          clear hb hu h47 htx hme
          go_wp2_with (first | (go_at_call 84; refine (blank_t V.ps KB.out).mono ?_; rintro e w3 ⟨rfl, H3, hb3⟩; have B3 := Kept.mk (BW.out.trans hb3); clear hb3) | (go_at_call 56; refine (blanks_s H3).mono ?_; rintro e w4 ⟨rfl, H4, hb4⟩; have B4 := Kept.mk (B3.out.trans hb4); clear hb4) | (go_at_call 67; refine (peek_v H4 HP.out).mono ?_; rintro e w5 ⟨rfl, H5, hb5⟩; have B5 := Kept.mk (B4.out.trans hb5); clear hb5))
          go_meet
          case rel => exact ⟨47 :: u, st', HX, by rw [← HU.out]; exact H5, B5, by rw [← HU.out]; exact HM, by rw [← HU.out]; exact HT, by rw [← HU.out]; have := V.len; omega⟩
        · by_cases h62 : (Ppa.blanksL r').head? = some 62
          · obtain ⟨u, hu⟩ := head_cons h62
            have HX : Kept (oA = .ok (62 :: u, st')) := ⟨by have h2 := V.eq; rw [attrs_end hb hu (.inr rfl)] at h2; injection h2 with h2; exact h2.symm⟩
            have HP : Kept (Ppa.peek (Ppa.blanksL r') = 62) := ⟨(peek_is 62 (by decide) _).2 h62⟩
            have HU := Kept.mk hu
            have HT := Kept.mk htx
            have HM := Kept.mk hme
            clear hb hu h47 h62 htx hme
            go_wp2_with (first | (go_at_call 84; refine (blank_t V.ps KB.out).mono ?_; rintro e w3 ⟨rfl, H3, hb3⟩; have B3 := Kept.mk (BW.out.trans hb3); clear hb3) | (go_at_call 56; refine (blanks_s H3).mono ?_; rintro e w4 ⟨rfl, H4, hb4⟩; have B4 := Kept.mk (B3.out.trans hb4); clear hb4) | (go_at_call 67; refine (peek_v H4 HP.out).mono ?_; rintro e w5 ⟨rfl, H5, hb5⟩; have B5 := Kept.mk (B4.out.trans hb5); clear hb5))
            go_meet
            case rel => exact ⟨62 :: u, st', HX, by rw [← HU.out]; exact H5, B5, by rw [← HU.out]; exact HM, by rw [← HU.out]; exact HT, by rw [← HU.out]; have := V.len; omega⟩
          · have hmore := V.eq
            rw [attrs_more hb h47 h62] at hmore
            have p47 : ¬ Ppa.peek (Ppa.blanksL r') = 47 := fun e => h47 ((peek_is 47 (by decide) _).1 e)
            have p62 : ¬ Ppa.peek (Ppa.blanksL r') = 62 := fun e => h62 ((peek_is 62 (by decide) _).1 e)
            have q62 : (Ppa.peek (Ppa.blanksL r') == 62) = false := by simpa using p62
            have q47 : (Ppa.peek (Ppa.blanksL r') == 47) = false := by simpa using p47
            have hN := V.node
            have hvl := V.len
            have HT := Kept.mk htx
            have HM := Kept.mk hme
            clear h47 h62 hb htx hme
            cases hat : Ppa.attrM s.size q (Ppa.blanksL r') st' with
            | error r2 =>
              rw [hat] at hmore
              have HX : Kept (o = .error r2) := ⟨by injection hmore with h2; have h3 := KO.out; rw [← h2] at h3; unfold tailM at h3; injection h3 with h3; exact h3.symm⟩
              have KAT := Kept.mk hat
              clear hat hmore
              go_wp2_with (first | (go_at_call 84; refine (blank_t V.ps KB.out).mono ?_; rintro e w3 ⟨rfl, H3, hb3⟩; have B3 := Kept.mk (BW.out.trans hb3); clear hb3) | (go_at_call 56; refine (blanks_s H3).mono ?_; rintro e w4 ⟨rfl, H4, hb4⟩; have B4 := Kept.mk (B3.out.trans hb4); clear hb4) | (go_at_call 67; refine (peek_t H4).mono ?_; rintro e w5 ⟨rfl, H5, hb5⟩; have B5 := Kept.mk (B4.out.trans hb5); clear hb5) | (go_at_call 88; refine (waysS_no (attribute_s H5 HM.out HT.out hN) KAT.out).mono ?_; rintro e w6 ⟨rfl, hl6, hb6⟩; have B6 := Kept.mk (B5.out.trans hb6); clear hb6))
              exact ⟨rfl, B6.out, by rw [HX.out]; exact ⟨rfl, hl6⟩⟩
            | ok q2 =>
              obtain ⟨r2, st2⟩ := q2
              rw [hat] at hmore
              obtain ⟨a1, a2, a3, _, a5⟩ := Ppa.attrM_ok hat
              have a6 := a1.length_le
              have HE := Kept.mk hmore
              have HT2 := Kept.mk (a3 HT.out)
              have HM2 : Kept (Ppa.meas st2 r2 ≤ 300000) := ⟨by have := HM.out; omega⟩
              have KAT := Kept.mk hat
              clear hat hmore a1 a2 a3
              go_wp2_with (first | (go_at_call 84; refine (blank_t V.ps KB.out).mono ?_; rintro e w3 ⟨rfl, H3, hb3⟩; have B3 := Kept.mk (BW.out.trans hb3); clear hb3) | (go_at_call 56; refine (blanks_s H3).mono ?_; rintro e w4 ⟨rfl, H4, hb4⟩; have B4 := Kept.mk (B3.out.trans hb4); clear hb4) | (go_at_call 67; refine (peek_t H4).mono ?_; rintro e w5 ⟨rfl, H5, hb5⟩; have B5 := Kept.mk (B4.out.trans hb5); clear hb5) | (go_at_call 88; refine (waysS_ok (attribute_s H5 HM.out HT.out hN) KAT.out).mono ?_; rintro e w6 ⟨rfl, H6, hb6⟩; have B6 := Kept.mk (B5.out.trans hb6); clear hb6))
              go_roundg g
              case measure => omega
              case rel => exact ⟨r2, st2, ⟨H6, HM2.out, HT2.out, HE.out, by omega, by omega⟩, B6⟩
  case rest =>
    obtain ⟨r2, st2, HX, H3, B3, HM, HT, hl2⟩ := hcut
    have hto := KO.out
    rw [HX.out] at hto
    clear H1 H2 K1 KA KT KM KO
    by_cases h47 : r2.head? = some 47
    · obtain ⟨u, rfl⟩ := head_cons h47
      rw [tail_slash] at hto
      clear h47
      cases hmu : Ppa.mustL [62] u with
      | error r3 =>
        rw [hmu] at hto
        have HO : Kept (o = .error r3) := ⟨by injection hto with hto; exact hto.symm⟩
        have KU := Kept.mk hmu
        clear hmu hto
        go_wp2_with (first | (go_at_call 58; refine (may_yes 47 (by decide) H3).mono ?_; rintro e w4 ⟨rfl, H4, hb4⟩; have B4 := Kept.mk (B3.out.trans hb4); clear hb4) | (go_at_call 57; refine (must_s_no [62] (by decide) H4 KU.out).mono ?_; rintro e w5 ⟨rfl, hl5, hb5⟩; have B5 := Kept.mk (B4.out.trans hb5); clear hb5))
        exact ⟨rfl, B5.out, by rw [HO.out]; exact ⟨rfl, hl5⟩⟩
      | ok r3 =>
        rw [hmu] at hto
        have HO : Kept (o = .ok (r3, st2)) := ⟨by injection hto with hto; exact hto.symm⟩
        have KU := Kept.mk hmu
        clear hmu hto
        go_wp2_with (first | (go_at_call 58; refine (may_yes 47 (by decide) H3).mono ?_; rintro e w4 ⟨rfl, H4, hb4⟩; have B4 := Kept.mk (B3.out.trans hb4); clear hb4) | (go_at_call 57; refine (must_s_ok [62] (by decide) H4 KU.out).mono ?_; rintro e w5 ⟨rfl, H5, hb5⟩; have B5 := Kept.mk (B4.out.trans hb5); clear hb5))
        go_end0
        exact ⟨B5.out, by rw [HO.out]; exact ⟨rfl, H5⟩⟩
    · cases hmu : Ppa.mustL [62] r2 with
      | error r3 =>
        rw [tail_no h47 hmu] at hto
        have HO : Kept (o = .error r3) := ⟨by injection hto with hto; exact hto.symm⟩
        have KU := Kept.mk hmu
        have K47 := Kept.mk h47
        clear hmu hto h47
        go_wp2_with (first | (go_at_call 58; refine (may_not 47 (by decide) K47.out H3).mono ?_; rintro e w4 ⟨rfl, H4, hb4⟩; have B4 := Kept.mk (B3.out.trans hb4); clear hb4) | (go_at_call 57; refine (must_s_no [62] (by decide) H4 KU.out).mono ?_; rintro e w5 ⟨rfl, hl5, hb5⟩; have B5 := Kept.mk (B4.out.trans hb5); clear hb5))
        exact ⟨rfl, B5.out, by rw [HO.out]; exact ⟨rfl, hl5⟩⟩
      | ok r3 =>
        rw [tail_cont h47 hmu] at hto
        have l3 := (Ppa.mustL_suf hmu).length_le
        have m3 := meas_small (Ppa.mustL_suf hmu) HM.out
        have t3 := mustL_texts _ _ _ (by decide) HT.out hmu
        have KU := Kept.mk hmu
        have K47 := Kept.mk h47
        have hq9 : (q : Int) ≤ 300000 := by have h2 := KS.out; have h3 := KM2.out; unfold Ppa.meas at h3; omega
        cases hco : Ppa.contF s.size f (q : Int) d 0 r3 st2 with
        | none => rw [hco] at hto; cases hto
        | some oc =>
          have CC := Kept.mk (fun (wx : World) (hx : Ps B b s st2 r3 wx) => hC (q : Int) d st2 r3 wx oc hx m3 t3 (by omega) hq9 (by omega) hco)
          rw [hco] at hto
          clear hmu h47 hco m3 t3 hC
          cases oc with
          | error r4 =>
            have HO : Kept (o = .error r4) := ⟨by injection hto with hto; exact hto.symm⟩
            clear hto
            go_wp2_with (first | (go_at_call 58; refine (may_not 47 (by decide) K47.out H3).mono ?_; rintro e w4 ⟨rfl, H4, hb4⟩; have B4 := Kept.mk (B3.out.trans hb4); clear hb4) | (go_at_call 57; refine (must_s_ok [62] (by decide) H4 KU.out).mono ?_; rintro e w5 ⟨rfl, H5, hb5⟩; have B5 := Kept.mk (B4.out.trans hb5); clear hb5) | (go_at_call 42; refine (waysS_no (CC.out _ H5) rfl).mono ?_; rintro e w6 ⟨rfl, hl6, hb6⟩; have B6 := Kept.mk (B5.out.trans hb6); clear hb6))
            exact ⟨rfl, B6.out, by rw [HO.out]; exact ⟨rfl, hl6⟩⟩
          | ok q4 =>
            obtain ⟨r4, st4⟩ := q4
            dsimp only at hto
            unfold Ppa.closeM at hto
            cases hag : Ppa.againL nm r4 with
            | error r5 =>
              rw [hag] at hto
              have HO : Kept (o = .error r5) := ⟨by injection hto with hto; exact hto.symm⟩
              have KG := Kept.mk hag
              clear hto hag
              go_wp2_with (first | (go_at_call 58; refine (may_not 47 (by decide) K47.out H3).mono ?_; rintro e w4 ⟨rfl, H4, hb4⟩; have B4 := Kept.mk (B3.out.trans hb4); clear hb4) | (go_at_call 57; clear TG0; refine (must_s_ok [62] (by decide) H4 KU.out).mono ?_; rintro e w5 ⟨rfl, H5, hb5⟩; have B5 := Kept.mk (B4.out.trans hb5); clear hb5) | (go_at_call 42; refine (waysS_ok (CC.out _ H5) rfl).mono ?_; rintro e w6 ⟨rfl, H6, hb6⟩; have B6 := Kept.mk (B5.out.trans hb6); clear hb6) | (go_at_call 57; refine (again_s_no H6 KG.out).mono ?_; rintro e w7 ⟨rfl, hl7, hb7⟩; have B7 := Kept.mk (B6.out.trans hb7); clear hb7))
              exact ⟨rfl, B7.out, by rw [HO.out]; exact ⟨rfl, hl7⟩⟩
            | ok r5 =>
              rw [hag] at hto
              dsimp only at hto
              have KG := Kept.mk hag
              clear hag
              cases hme : Ppa.mustL [62] (Ppa.blanksL r5) with
              | error r6 =>
                rw [hme] at hto
                have HO : Kept (o = .error r6) := ⟨by injection hto with hto; exact hto.symm⟩
                have KE := Kept.mk hme
                clear hto hme
                go_wp2_with (first | (go_at_call 58; refine (may_not 47 (by decide) K47.out H3).mono ?_; rintro e w4 ⟨rfl, H4, hb4⟩; have B4 := Kept.mk (B3.out.trans hb4); clear hb4) | (go_at_call 57; clear TG0; refine (must_s_ok [62] (by decide) H4 KU.out).mono ?_; rintro e w5 ⟨rfl, H5, hb5⟩; have B5 := Kept.mk (B4.out.trans hb5); clear hb5) | (go_at_call 42; refine (waysS_ok (CC.out _ H5) rfl).mono ?_; rintro e w6 ⟨rfl, H6, hb6⟩; have B6 := Kept.mk (B5.out.trans hb6); clear hb6) | (go_at_call 57; clear TG1; refine (again_s_ok H6 KG.out).mono ?_; rintro e w7 ⟨rfl, H7, hb7⟩; have B7 := Kept.mk (B6.out.trans hb7); clear hb7) | (go_at_call 56; refine (blanks_s H7).mono ?_; rintro e w8 ⟨rfl, H8, hb8⟩; have B8 := Kept.mk (B7.out.trans hb8); clear hb8) | (go_at_call 57; refine (must_s_no [62] (by decide) H8 KE.out).mono ?_; rintro e w9 ⟨rfl, hl9, hb9⟩; have B9 := Kept.mk (B8.out.trans hb9); clear hb9))
                exact ⟨rfl, B9.out, by rw [HO.out]; exact ⟨rfl, hl9⟩⟩
              | ok r6 =>
                rw [hme] at hto
                have HO : Kept (o = .ok (r6, st4)) := ⟨by injection hto with hto; exact hto.symm⟩
                have KE := Kept.mk hme
                clear hto hme
                go_wp2_with (first | (go_at_call 58; refine (may_not 47 (by decide) K47.out H3).mono ?_; rintro e w4 ⟨rfl, H4, hb4⟩; have B4 := Kept.mk (B3.out.trans hb4); clear hb4) | (go_at_call 57; clear TG0; refine (must_s_ok [62] (by decide) H4 KU.out).mono ?_; rintro e w5 ⟨rfl, H5, hb5⟩; have B5 := Kept.mk (B4.out.trans hb5); clear hb5) | (go_at_call 42; refine (waysS_ok (CC.out _ H5) rfl).mono ?_; rintro e w6 ⟨rfl, H6, hb6⟩; have B6 := Kept.mk (B5.out.trans hb6); clear hb6) | (go_at_call 57; clear TG1; refine (again_s_ok H6 KG.out).mono ?_; rintro e w7 ⟨rfl, H7, hb7⟩; have B7 := Kept.mk (B6.out.trans hb7); clear hb7) | (go_at_call 56; refine (blanks_s H7).mono ?_; rintro e w8 ⟨rfl, H8, hb8⟩; have B8 := Kept.mk (B7.out.trans hb8); clear hb8) | (go_at_call 57; refine (must_s_ok [62] (by decide) H8 KE.out).mono ?_; rintro e w9 ⟨rfl, H9, hb9⟩; have B9 := Kept.mk (B8.out.trans hb9); clear hb9))
                go_end0
                exact ⟨B9.out, by rw [HO.out]; exact ⟨rfl, H9⟩⟩
set_option maxRecDepth 100000 in
set_option maxHeartbeats 4000000 in
theorem element_b {B b f d : Nat} {s : ByteArray} {st : Ppa.St} {r r1 nm : Ppa.Bs} {w : World} (p : Int) (hC : ContC B b s f) (h : Ps B b s st r w) (hm : Ppa.meas st r ≤ 300000) (ht : Pch.textsL r = true) (hd : d + r.length ≤ 100000) (h1 : Ppa.nameM r = .ok (nm, r1)) {oA o : Except Ppa.Bs (Ppa.Bs × Ppa.St)} (ha : Ppa.attrsF s.size (Ppa.elemS s.size p d r nm st).nodes.length.pred (f + 1) r1 (Ppa.elemS s.size p d r nm st) = some oA) (ho : tailM s.size f nm (Ppa.elemS s.size p d r nm st).nodes.length.pred d oA = some o) (hr : 1 ≤ s.size - r.length)
    (hA : 60 < d) (hA2 : st.deep < 0) :
    Calls Tryz.prog 62 #[.pointer (some ⟨b, 0, none⟩), .int .i64 p, .int .i64 (d : Int)] w fun e w' => WaysS B b s w (.tuple #[]) o e w' := by
  have B0 : Kept (Bel B b w w) := ⟨Bel.refl _ _ _⟩
  have hsm := h.small
  have hlen := h.len
  obtain ⟨k, hk, c1⟩ := h.at_
  have t1 := (Ppa.nameM_ok h1).2.2 ht
  have l1 := Ppa.nameM_lt h1
  have m1 := meas_small (Ppa.nameM_suf h1) hm
  have hk1 : (s.size : Int) - r.length - 1 = (k : Int) - 1 := by omega
  have hS : Ppa.elemS s.size p d r nm st = Ppa.add { st with deep := (k : Int) - 1 } (2, nm, [], p) := by
    unfold Ppa.elemS
    rw [if_pos ⟨hA, hA2⟩, hk1]
  have hpos := elemS_text s.size p d r nm st
  have hms := Ppa.elemS_meas s.size p d r nm st r1
  have hm2 := Ppa.meas_lt (s := st) (r := r) (r' := r1) (k := 1) (by omega)
  have hq : (Ppa.elemS s.size p d r nm st).nodes.length.pred = (Ppa.flush { st with deep := (k : Int) - 1 } p).nodes.length := by rw [hS, add_other (by decide)]; simp
  rw [hq] at ha ho
  rw [hS] at ha hpos hms hq
  have hsz : (Ppa.add { st with deep := (k : Int) - 1 } (2, nm, [], p)).nodes.length = (Ppa.flush { st with deep := (k : Int) - 1 } p).nodes.length + 1 := by rw [add_other (by decide)]; simp
  generalize hQ : (Ppa.flush { st with deep := (k : Int) - 1 } p).nodes.length = q at ha ho hsz
  have K1 := Kept.mk h1
  have KA := Kept.mk ha
  have KO := Kept.mk ho
  have KT := Kept.mk t1
  have KQ := Kept.mk hQ
  have KS := Kept.mk hsz
  have KM2 : Kept (Ppa.meas (Ppa.add { st with deep := (k : Int) - 1 } (2, nm, [], p)) r1 ≤ 300000) := ⟨by omega⟩
  have KM : Kept (Ppa.meas (Ppa.add { st with deep := (k : Int) - 1 } (2, nm, [], p)) r1 ≤ 300000) := ⟨by omega⟩
  have i0 : (1 : Int) ≤ (k : Int) := by omega
  have i1 : (k : Int) ≤ 65536 := by omega
  have i2 : (60 : Int) < (d : Int) := by omega
  have TG0 : Kept True := ⟨trivial⟩
  have TG1 : Kept True := ⟨trivial⟩
  clear h1 ha ho t1 hQ hS hsz hms hm2 hpos hq
  go_enter Tryz.func62, Tryz.ntmps62
  go_upto_block 0 with (first
    | (go_at_call 85; refine (name_s_ok h K1.out).mono ?_; rintro e w1 ⟨rfl, H1, hb1⟩; have B1 := Kept.mk (B0.out.trans hb1); clear hb1; have c6 := H1.c6; have f6 := H1.unf 6; have H1d := H1.deep ((k : Int) - 1); have B1d := Kept.mk (B1.out.setCell (p := ⟨b, 6, none⟩) H1.le (.int .i64 ((k : Int) - 1))))
    | (go_at_call 52; refine (add_t 2 (by decide) nm [] p H1d m1).mono ?_; rintro e w2 ⟨rfl, H2, hb2⟩; rw [KQ.out]; have B2 := Kept.mk (B1d.out.trans hb2); clear hb2))
  go_cut [9] from 35 to 49 (fun _ wx => ∃ r2 st2, Kept (oA = .ok (r2, st2)) ∧ Ps B b s st2 r2 wx ∧ Kept (Bel B b w wx) ∧ Kept (Ppa.meas st2 r2 ≤ 300000) ∧ Kept (Pch.textsL r2 = true) ∧ r2.length ≤ r1.length)
  case first =>
    go_wp2_with fail
    go_loopg [9] (f + 1) (fun g _ wx => ∃ r' st', At_ B b s q r1.length oA g st' r' wx ∧ Kept (Bel B b w wx))
    case atStart => exact ⟨r1, _, ⟨H2, KM.out, KT.out, KA.out, by rw [KS.out]; omega, Nat.le_refl _⟩, B2⟩
    case round =>
      obtain ⟨r', st', V, BW⟩ := hrel
      obtain ⟨g, rfl⟩ : ∃ g, gk = g + 1 := by
        cases gk with
        | zero => have h2 := V.eq; rw [Ppa.attrsF] at h2; cases h2
        | succ g => exact ⟨g, rfl⟩
      clear H1 H2 K1 KA KT KM
      cases hb : blankH r' with
      | false =>
        have HX : Kept (oA = .ok (r', st')) := ⟨by have h2 := V.eq; rw [attrs_stop hb] at h2; injection h2 with h2; exact h2.symm⟩
        have KB := Kept.mk hb
        clear hb
        go_wp2_with (go_at_call 84; refine (blank_t V.ps KB.out).mono ?_; rintro e w3 ⟨rfl, H3, hb3⟩; have B3 := Kept.mk (BW.out.trans hb3); clear hb3)
        go_meet
        case rel => exact ⟨r', st', HX, H3, B3, ⟨V.m⟩, ⟨V.tx⟩, V.len⟩
      | true =>
        have KB := Kept.mk hb
        have hz := blanks_shorter hb
        have htx := Ppa.blanksL_texts V.tx
        have hme := meas_small (Ppa.blanksL_suf r') V.m
        by_cases h47 : (Ppa.blanksL r').head? = some 47
        · obtain ⟨u, hu⟩ := head_cons h47
          have HX : Kept (oA = .ok (47 :: u, st')) := ⟨by have h2 := V.eq; rw [attrs_end hb hu (.inl rfl)] at h2; injection h2 with h2; exact h2.symm⟩
          have HP : Kept (Ppa.peek (Ppa.blanksL r') = 47) := ⟨(peek_is 47 (by decide) _).2 h47⟩
          have HU := Kept.mk hu
          have HT := Kept.mk htx
          have HM := Kept.mk hme
          clear hb hu h47 htx hme
          go_wp2_with (first | (go_at_call 84; refine (blank_t V.ps KB.out).mono ?_; rintro e w3 ⟨rfl, H3, hb3⟩; have B3 := Kept.mk (BW.out.trans hb3); clear hb3) | (go_at_call 56; refine (blanks_s H3).mono ?_; rintro e w4 ⟨rfl, H4, hb4⟩; have B4 := Kept.mk (B3.out.trans hb4); clear hb4) | (go_at_call 67; refine (peek_v H4 HP.out).mono ?_; rintro e w5 ⟨rfl, H5, hb5⟩; have B5 := Kept.mk (B4.out.trans hb5); clear hb5))
          go_meet
          case rel => exact ⟨47 :: u, st', HX, by rw [← HU.out]; exact H5, B5, by rw [← HU.out]; exact HM, by rw [← HU.out]; exact HT, by rw [← HU.out]; have := V.len; omega⟩
        · by_cases h62 : (Ppa.blanksL r').head? = some 62
          · obtain ⟨u, hu⟩ := head_cons h62
            have HX : Kept (oA = .ok (62 :: u, st')) := ⟨by have h2 := V.eq; rw [attrs_end hb hu (.inr rfl)] at h2; injection h2 with h2; exact h2.symm⟩
            have HP : Kept (Ppa.peek (Ppa.blanksL r') = 62) := ⟨(peek_is 62 (by decide) _).2 h62⟩
            have HU := Kept.mk hu
            have HT := Kept.mk htx
            have HM := Kept.mk hme
            clear hb hu h47 h62 htx hme
            go_wp2_with (first | (go_at_call 84; refine (blank_t V.ps KB.out).mono ?_; rintro e w3 ⟨rfl, H3, hb3⟩; have B3 := Kept.mk (BW.out.trans hb3); clear hb3) | (go_at_call 56; refine (blanks_s H3).mono ?_; rintro e w4 ⟨rfl, H4, hb4⟩; have B4 := Kept.mk (B3.out.trans hb4); clear hb4) | (go_at_call 67; refine (peek_v H4 HP.out).mono ?_; rintro e w5 ⟨rfl, H5, hb5⟩; have B5 := Kept.mk (B4.out.trans hb5); clear hb5))
            go_meet
            case rel => exact ⟨62 :: u, st', HX, by rw [← HU.out]; exact H5, B5, by rw [← HU.out]; exact HM, by rw [← HU.out]; exact HT, by rw [← HU.out]; have := V.len; omega⟩
          · have hmore := V.eq
            rw [attrs_more hb h47 h62] at hmore
            have p47 : ¬ Ppa.peek (Ppa.blanksL r') = 47 := fun e => h47 ((peek_is 47 (by decide) _).1 e)
            have p62 : ¬ Ppa.peek (Ppa.blanksL r') = 62 := fun e => h62 ((peek_is 62 (by decide) _).1 e)
            have q62 : (Ppa.peek (Ppa.blanksL r') == 62) = false := by simpa using p62
            have q47 : (Ppa.peek (Ppa.blanksL r') == 47) = false := by simpa using p47
            have hN := V.node
            have hvl := V.len
            have HT := Kept.mk htx
            have HM := Kept.mk hme
            clear h47 h62 hb htx hme
            cases hat : Ppa.attrM s.size q (Ppa.blanksL r') st' with
            | error r2 =>
              rw [hat] at hmore
              have HX : Kept (o = .error r2) := ⟨by injection hmore with h2; have h3 := KO.out; rw [← h2] at h3; unfold tailM at h3; injection h3 with h3; exact h3.symm⟩
              have KAT := Kept.mk hat
              clear hat hmore
              go_wp2_with (first | (go_at_call 84; refine (blank_t V.ps KB.out).mono ?_; rintro e w3 ⟨rfl, H3, hb3⟩; have B3 := Kept.mk (BW.out.trans hb3); clear hb3) | (go_at_call 56; refine (blanks_s H3).mono ?_; rintro e w4 ⟨rfl, H4, hb4⟩; have B4 := Kept.mk (B3.out.trans hb4); clear hb4) | (go_at_call 67; refine (peek_t H4).mono ?_; rintro e w5 ⟨rfl, H5, hb5⟩; have B5 := Kept.mk (B4.out.trans hb5); clear hb5) | (go_at_call 88; refine (waysS_no (attribute_s H5 HM.out HT.out hN) KAT.out).mono ?_; rintro e w6 ⟨rfl, hl6, hb6⟩; have B6 := Kept.mk (B5.out.trans hb6); clear hb6))
              exact ⟨rfl, B6.out, by rw [HX.out]; exact ⟨rfl, hl6⟩⟩
            | ok q2 =>
              obtain ⟨r2, st2⟩ := q2
              rw [hat] at hmore
              obtain ⟨a1, a2, a3, _, a5⟩ := Ppa.attrM_ok hat
              have a6 := a1.length_le
              have HE := Kept.mk hmore
              have HT2 := Kept.mk (a3 HT.out)
              have HM2 : Kept (Ppa.meas st2 r2 ≤ 300000) := ⟨by have := HM.out; omega⟩
              have KAT := Kept.mk hat
              clear hat hmore a1 a2 a3
              go_wp2_with (first | (go_at_call 84; refine (blank_t V.ps KB.out).mono ?_; rintro e w3 ⟨rfl, H3, hb3⟩; have B3 := Kept.mk (BW.out.trans hb3); clear hb3) | (go_at_call 56; refine (blanks_s H3).mono ?_; rintro e w4 ⟨rfl, H4, hb4⟩; have B4 := Kept.mk (B3.out.trans hb4); clear hb4) | (go_at_call 67; refine (peek_t H4).mono ?_; rintro e w5 ⟨rfl, H5, hb5⟩; have B5 := Kept.mk (B4.out.trans hb5); clear hb5) | (go_at_call 88; refine (waysS_ok (attribute_s H5 HM.out HT.out hN) KAT.out).mono ?_; rintro e w6 ⟨rfl, H6, hb6⟩; have B6 := Kept.mk (B5.out.trans hb6); clear hb6))
              go_roundg g
              case measure => omega
              case rel => exact ⟨r2, st2, ⟨H6, HM2.out, HT2.out, HE.out, by omega, by omega⟩, B6⟩
  case rest =>
    obtain ⟨r2, st2, HX, H3, B3, HM, HT, hl2⟩ := hcut
    have hto := KO.out
    rw [HX.out] at hto
    clear H1 H2 K1 KA KT KM KO
    by_cases h47 : r2.head? = some 47
    · obtain ⟨u, rfl⟩ := head_cons h47
      rw [tail_slash] at hto
      clear h47
      cases hmu : Ppa.mustL [62] u with
      | error r3 =>
        rw [hmu] at hto
        have HO : Kept (o = .error r3) := ⟨by injection hto with hto; exact hto.symm⟩
        have KU := Kept.mk hmu
        clear hmu hto
        go_wp2_with (first | (go_at_call 58; refine (may_yes 47 (by decide) H3).mono ?_; rintro e w4 ⟨rfl, H4, hb4⟩; have B4 := Kept.mk (B3.out.trans hb4); clear hb4) | (go_at_call 57; refine (must_s_no [62] (by decide) H4 KU.out).mono ?_; rintro e w5 ⟨rfl, hl5, hb5⟩; have B5 := Kept.mk (B4.out.trans hb5); clear hb5))
        exact ⟨rfl, B5.out, by rw [HO.out]; exact ⟨rfl, hl5⟩⟩
      | ok r3 =>
        rw [hmu] at hto
        have HO : Kept (o = .ok (r3, st2)) := ⟨by injection hto with hto; exact hto.symm⟩
        have KU := Kept.mk hmu
        clear hmu hto
        go_wp2_with (first | (go_at_call 58; refine (may_yes 47 (by decide) H3).mono ?_; rintro e w4 ⟨rfl, H4, hb4⟩; have B4 := Kept.mk (B3.out.trans hb4); clear hb4) | (go_at_call 57; refine (must_s_ok [62] (by decide) H4 KU.out).mono ?_; rintro e w5 ⟨rfl, H5, hb5⟩; have B5 := Kept.mk (B4.out.trans hb5); clear hb5))
        go_end0
        exact ⟨B5.out, by rw [HO.out]; exact ⟨rfl, H5⟩⟩
    · cases hmu : Ppa.mustL [62] r2 with
      | error r3 =>
        rw [tail_no h47 hmu] at hto
        have HO : Kept (o = .error r3) := ⟨by injection hto with hto; exact hto.symm⟩
        have KU := Kept.mk hmu
        have K47 := Kept.mk h47
        clear hmu hto h47
        go_wp2_with (first | (go_at_call 58; refine (may_not 47 (by decide) K47.out H3).mono ?_; rintro e w4 ⟨rfl, H4, hb4⟩; have B4 := Kept.mk (B3.out.trans hb4); clear hb4) | (go_at_call 57; refine (must_s_no [62] (by decide) H4 KU.out).mono ?_; rintro e w5 ⟨rfl, hl5, hb5⟩; have B5 := Kept.mk (B4.out.trans hb5); clear hb5))
        exact ⟨rfl, B5.out, by rw [HO.out]; exact ⟨rfl, hl5⟩⟩
      | ok r3 =>
        rw [tail_cont h47 hmu] at hto
        have l3 := (Ppa.mustL_suf hmu).length_le
        have m3 := meas_small (Ppa.mustL_suf hmu) HM.out
        have t3 := mustL_texts _ _ _ (by decide) HT.out hmu
        have KU := Kept.mk hmu
        have K47 := Kept.mk h47
        have hq9 : (q : Int) ≤ 300000 := by have h2 := KS.out; have h3 := KM2.out; unfold Ppa.meas at h3; omega
        cases hco : Ppa.contF s.size f (q : Int) d 0 r3 st2 with
        | none => rw [hco] at hto; cases hto
        | some oc =>
          have CC := Kept.mk (fun (wx : World) (hx : Ps B b s st2 r3 wx) => hC (q : Int) d st2 r3 wx oc hx m3 t3 (by omega) hq9 (by omega) hco)
          rw [hco] at hto
          clear hmu h47 hco m3 t3 hC
          cases oc with
          | error r4 =>
            have HO : Kept (o = .error r4) := ⟨by injection hto with hto; exact hto.symm⟩
            clear hto
            go_wp2_with (first | (go_at_call 58; refine (may_not 47 (by decide) K47.out H3).mono ?_; rintro e w4 ⟨rfl, H4, hb4⟩; have B4 := Kept.mk (B3.out.trans hb4); clear hb4) | (go_at_call 57; refine (must_s_ok [62] (by decide) H4 KU.out).mono ?_; rintro e w5 ⟨rfl, H5, hb5⟩; have B5 := Kept.mk (B4.out.trans hb5); clear hb5) | (go_at_call 42; refine (waysS_no (CC.out _ H5) rfl).mono ?_; rintro e w6 ⟨rfl, hl6, hb6⟩; have B6 := Kept.mk (B5.out.trans hb6); clear hb6))
            exact ⟨rfl, B6.out, by rw [HO.out]; exact ⟨rfl, hl6⟩⟩
          | ok q4 =>
            obtain ⟨r4, st4⟩ := q4
            dsimp only at hto
            unfold Ppa.closeM at hto
            cases hag : Ppa.againL nm r4 with
            | error r5 =>
              rw [hag] at hto
              have HO : Kept (o = .error r5) := ⟨by injection hto with hto; exact hto.symm⟩
              have KG := Kept.mk hag
              clear hto hag
              go_wp2_with (first | (go_at_call 58; refine (may_not 47 (by decide) K47.out H3).mono ?_; rintro e w4 ⟨rfl, H4, hb4⟩; have B4 := Kept.mk (B3.out.trans hb4); clear hb4) | (go_at_call 57; clear TG0; refine (must_s_ok [62] (by decide) H4 KU.out).mono ?_; rintro e w5 ⟨rfl, H5, hb5⟩; have B5 := Kept.mk (B4.out.trans hb5); clear hb5) | (go_at_call 42; refine (waysS_ok (CC.out _ H5) rfl).mono ?_; rintro e w6 ⟨rfl, H6, hb6⟩; have B6 := Kept.mk (B5.out.trans hb6); clear hb6) | (go_at_call 57; refine (again_s_no H6 KG.out).mono ?_; rintro e w7 ⟨rfl, hl7, hb7⟩; have B7 := Kept.mk (B6.out.trans hb7); clear hb7))
              exact ⟨rfl, B7.out, by rw [HO.out]; exact ⟨rfl, hl7⟩⟩
            | ok r5 =>
              rw [hag] at hto
              dsimp only at hto
              have KG := Kept.mk hag
              clear hag
              cases hme : Ppa.mustL [62] (Ppa.blanksL r5) with
              | error r6 =>
                rw [hme] at hto
                have HO : Kept (o = .error r6) := ⟨by injection hto with hto; exact hto.symm⟩
                have KE := Kept.mk hme
                clear hto hme
                go_wp2_with (first | (go_at_call 58; refine (may_not 47 (by decide) K47.out H3).mono ?_; rintro e w4 ⟨rfl, H4, hb4⟩; have B4 := Kept.mk (B3.out.trans hb4); clear hb4) | (go_at_call 57; clear TG0; refine (must_s_ok [62] (by decide) H4 KU.out).mono ?_; rintro e w5 ⟨rfl, H5, hb5⟩; have B5 := Kept.mk (B4.out.trans hb5); clear hb5) | (go_at_call 42; refine (waysS_ok (CC.out _ H5) rfl).mono ?_; rintro e w6 ⟨rfl, H6, hb6⟩; have B6 := Kept.mk (B5.out.trans hb6); clear hb6) | (go_at_call 57; clear TG1; refine (again_s_ok H6 KG.out).mono ?_; rintro e w7 ⟨rfl, H7, hb7⟩; have B7 := Kept.mk (B6.out.trans hb7); clear hb7) | (go_at_call 56; refine (blanks_s H7).mono ?_; rintro e w8 ⟨rfl, H8, hb8⟩; have B8 := Kept.mk (B7.out.trans hb8); clear hb8) | (go_at_call 57; refine (must_s_no [62] (by decide) H8 KE.out).mono ?_; rintro e w9 ⟨rfl, hl9, hb9⟩; have B9 := Kept.mk (B8.out.trans hb9); clear hb9))
                exact ⟨rfl, B9.out, by rw [HO.out]; exact ⟨rfl, hl9⟩⟩
              | ok r6 =>
                rw [hme] at hto
                have HO : Kept (o = .ok (r6, st4)) := ⟨by injection hto with hto; exact hto.symm⟩
                have KE := Kept.mk hme
                clear hto hme
                go_wp2_with (first | (go_at_call 58; refine (may_not 47 (by decide) K47.out H3).mono ?_; rintro e w4 ⟨rfl, H4, hb4⟩; have B4 := Kept.mk (B3.out.trans hb4); clear hb4) | (go_at_call 57; clear TG0; refine (must_s_ok [62] (by decide) H4 KU.out).mono ?_; rintro e w5 ⟨rfl, H5, hb5⟩; have B5 := Kept.mk (B4.out.trans hb5); clear hb5) | (go_at_call 42; refine (waysS_ok (CC.out _ H5) rfl).mono ?_; rintro e w6 ⟨rfl, H6, hb6⟩; have B6 := Kept.mk (B5.out.trans hb6); clear hb6) | (go_at_call 57; clear TG1; refine (again_s_ok H6 KG.out).mono ?_; rintro e w7 ⟨rfl, H7, hb7⟩; have B7 := Kept.mk (B6.out.trans hb7); clear hb7) | (go_at_call 56; refine (blanks_s H7).mono ?_; rintro e w8 ⟨rfl, H8, hb8⟩; have B8 := Kept.mk (B7.out.trans hb8); clear hb8) | (go_at_call 57; refine (must_s_ok [62] (by decide) H8 KE.out).mono ?_; rintro e w9 ⟨rfl, H9, hb9⟩; have B9 := Kept.mk (B8.out.trans hb9); clear hb9))
                go_end0
                exact ⟨B9.out, by rw [HO.out]; exact ⟨rfl, H9⟩⟩
set_option maxRecDepth 100000 in
set_option maxHeartbeats 4000000 in
theorem element_c {B b f d : Nat} {s : ByteArray} {st : Ppa.St} {r r1 nm : Ppa.Bs} {w : World} (p : Int) (hC : ContC B b s f) (h : Ps B b s st r w) (hm : Ppa.meas st r ≤ 300000) (ht : Pch.textsL r = true) (hd : d + r.length ≤ 100000) (h1 : Ppa.nameM r = .ok (nm, r1)) {oA o : Except Ppa.Bs (Ppa.Bs × Ppa.St)} (ha : Ppa.attrsF s.size (Ppa.elemS s.size p d r nm st).nodes.length.pred (f + 1) r1 (Ppa.elemS s.size p d r nm st) = some oA) (ho : tailM s.size f nm (Ppa.elemS s.size p d r nm st).nodes.length.pred d oA = some o) (hr : 1 ≤ s.size - r.length)
    (hA : 60 < d) (hA2 : ¬ st.deep < 0) :
    Calls Tryz.prog 62 #[.pointer (some ⟨b, 0, none⟩), .int .i64 p, .int .i64 (d : Int)] w fun e w' => WaysS B b s w (.tuple #[]) o e w' := by
  have B0 : Kept (Bel B b w w) := ⟨Bel.refl _ _ _⟩
  have hsm := h.small
  have hlen := h.len
  obtain ⟨k, hk, c1⟩ := h.at_
  have t1 := (Ppa.nameM_ok h1).2.2 ht
  have l1 := Ppa.nameM_lt h1
  have m1 := meas_small (Ppa.nameM_suf h1) hm
  have hS : Ppa.elemS s.size p d r nm st = Ppa.add st (2, nm, [], p) := by
    unfold Ppa.elemS
    rw [if_neg (fun h => hA2 h.2)]
  have hpos := elemS_text s.size p d r nm st
  have hms := Ppa.elemS_meas s.size p d r nm st r1
  have hm2 := Ppa.meas_lt (s := st) (r := r) (r' := r1) (k := 1) (by omega)
  have hq : (Ppa.elemS s.size p d r nm st).nodes.length.pred = (Ppa.flush st p).nodes.length := by rw [hS, add_other (by decide)]; simp
  rw [hq] at ha ho
  rw [hS] at ha hpos hms hq
  have hsz : (Ppa.add st (2, nm, [], p)).nodes.length = (Ppa.flush st p).nodes.length + 1 := by rw [add_other (by decide)]; simp
  generalize hQ : (Ppa.flush st p).nodes.length = q at ha ho hsz
  have K1 := Kept.mk h1
  have KA := Kept.mk ha
  have KO := Kept.mk ho
  have KT := Kept.mk t1
  have KQ := Kept.mk hQ
  have KS := Kept.mk hsz
  have KM2 : Kept (Ppa.meas (Ppa.add st (2, nm, [], p)) r1 ≤ 300000) := ⟨by omega⟩
  have KM : Kept (Ppa.meas (Ppa.add st (2, nm, [], p)) r1 ≤ 300000) := ⟨by omega⟩
  have i0 : (1 : Int) ≤ (k : Int) := by omega
  have i1 : (k : Int) ≤ 65536 := by omega
  have i2 : (60 : Int) < (d : Int) := by omega
  have TG0 : Kept True := ⟨trivial⟩
  have TG1 : Kept True := ⟨trivial⟩
  clear h1 ha ho t1 hQ hS hsz hms hm2 hpos hq
  go_enter Tryz.func62, Tryz.ntmps62
  go_upto_block 0 with (first
    | (go_at_call 85; refine (name_s_ok h K1.out).mono ?_; rintro e w1 ⟨rfl, H1, hb1⟩; have B1 := Kept.mk (B0.out.trans hb1); clear hb1; have c6 := H1.c6)
    | (go_at_call 52; refine (add_t 2 (by decide) nm [] p H1 m1).mono ?_; rintro e w2 ⟨rfl, H2, hb2⟩; rw [KQ.out]; have B2 := Kept.mk (B1.out.trans hb2); clear hb2))
  go_cut [9] from 35 to 49 (fun _ wx => ∃ r2 st2, Kept (oA = .ok (r2, st2)) ∧ Ps B b s st2 r2 wx ∧ Kept (Bel B b w wx) ∧ Kept (Ppa.meas st2 r2 ≤ 300000) ∧ Kept (Pch.textsL r2 = true) ∧ r2.length ≤ r1.length)
  case first =>
    go_wp2_with fail
    go_loopg [9] (f + 1) (fun g _ wx => ∃ r' st', At_ B b s q r1.length oA g st' r' wx ∧ Kept (Bel B b w wx))
    case atStart => exact ⟨r1, _, ⟨H2, KM.out, KT.out, KA.out, by rw [KS.out]; omega, Nat.le_refl _⟩, B2⟩
    case round =>
      obtain ⟨r', st', V, BW⟩ := hrel
      obtain ⟨g, rfl⟩ : ∃ g, gk = g + 1 := by
        cases gk with
        | zero => have h2 := V.eq; rw [Ppa.attrsF] at h2; cases h2
        | succ g => exact ⟨g, rfl⟩
      clear H1 H2 K1 KA KT KM
      cases hb : blankH r' with
      | false =>
        have HX : Kept (oA = .ok (r', st')) := ⟨by have h2 := V.eq; rw [attrs_stop hb] at h2; injection h2 with h2; exact h2.symm⟩
        have KB := Kept.mk hb
        clear hb
        go_wp2_with (go_at_call 84; refine (blank_t V.ps KB.out).mono ?_; rintro e w3 ⟨rfl, H3, hb3⟩; have B3 := Kept.mk (BW.out.trans hb3); clear hb3)
        go_meet
        case rel => exact ⟨r', st', HX, H3, B3, ⟨V.m⟩, ⟨V.tx⟩, V.len⟩
      | true =>
        have KB := Kept.mk hb
        have hz := blanks_shorter hb
        have htx := Ppa.blanksL_texts V.tx
        have hme := meas_small (Ppa.blanksL_suf r') V.m
        by_cases h47 : (Ppa.blanksL r').head? = some 47
        · obtain ⟨u, hu⟩ := head_cons h47
          have HX : Kept (oA = .ok (47 :: u, st')) := ⟨by have h2 := V.eq; rw [attrs_end hb hu (.inl rfl)] at h2; injection h2 with h2; exact h2.symm⟩
          have HP : Kept (Ppa.peek (Ppa.blanksL r') = 47) := ⟨(peek_is 47 (by decide) _).2 h47⟩
          have HU := Kept.mk hu
          have HT := Kept.mk htx
          have HM := Kept.mk hme
          clear hb hu h47 htx hme
          go_wp2_with (first | (go_at_call 84; refine (blank_t V.ps KB.out).mono ?_; rintro e w3 ⟨rfl, H3, hb3⟩; have B3 := Kept.mk (BW.out.trans hb3); clear hb3) | (go_at_call 56; refine (blanks_s H3).mono ?_; rintro e w4 ⟨rfl, H4, hb4⟩; have B4 := Kept.mk (B3.out.trans hb4); clear hb4) | (go_at_call 67; refine (peek_v H4 HP.out).mono ?_; rintro e w5 ⟨rfl, H5, hb5⟩; have B5 := Kept.mk (B4.out.trans hb5); clear hb5))
          go_meet
          case rel => exact ⟨47 :: u, st', HX, by rw [← HU.out]; exact H5, B5, by rw [← HU.out]; exact HM, by rw [← HU.out]; exact HT, by rw [← HU.out]; have := V.len; omega⟩
        · by_cases h62 : (Ppa.blanksL r').head? = some 62
          · obtain ⟨u, hu⟩ := head_cons h62
            have HX : Kept (oA = .ok (62 :: u, st')) := ⟨by have h2 := V.eq; rw [attrs_end hb hu (.inr rfl)] at h2; injection h2 with h2; exact h2.symm⟩
            have HP : Kept (Ppa.peek (Ppa.blanksL r') = 62) := ⟨(peek_is 62 (by decide) _).2 h62⟩
            have HU := Kept.mk hu
            have HT := Kept.mk htx
            have HM := Kept.mk hme
            clear hb hu h47 h62 htx hme
            go_wp2_with (first | (go_at_call 84; refine (blank_t V.ps KB.out).mono ?_; rintro e w3 ⟨rfl, H3, hb3⟩; have B3 := Kept.mk (BW.out.trans hb3); clear hb3) | (go_at_call 56; refine (blanks_s H3).mono ?_; rintro e w4 ⟨rfl, H4, hb4⟩; have B4 := Kept.mk (B3.out.trans hb4); clear hb4) | (go_at_call 67; refine (peek_v H4 HP.out).mono ?_; rintro e w5 ⟨rfl, H5, hb5⟩; have B5 := Kept.mk (B4.out.trans hb5); clear hb5))
            go_meet
            case rel => exact ⟨62 :: u, st', HX, by rw [← HU.out]; exact H5, B5, by rw [← HU.out]; exact HM, by rw [← HU.out]; exact HT, by rw [← HU.out]; have := V.len; omega⟩
          · have hmore := V.eq
            rw [attrs_more hb h47 h62] at hmore
            have p47 : ¬ Ppa.peek (Ppa.blanksL r') = 47 := fun e => h47 ((peek_is 47 (by decide) _).1 e)
            have p62 : ¬ Ppa.peek (Ppa.blanksL r') = 62 := fun e => h62 ((peek_is 62 (by decide) _).1 e)
            have q62 : (Ppa.peek (Ppa.blanksL r') == 62) = false := by simpa using p62
            have q47 : (Ppa.peek (Ppa.blanksL r') == 47) = false := by simpa using p47
            have hN := V.node
            have hvl := V.len
            have HT := Kept.mk htx
            have HM := Kept.mk hme
            clear h47 h62 hb htx hme
            cases hat : Ppa.attrM s.size q (Ppa.blanksL r') st' with
            | error r2 =>
              rw [hat] at hmore
              have HX : Kept (o = .error r2) := ⟨by injection hmore with h2; have h3 := KO.out; rw [← h2] at h3; unfold tailM at h3; injection h3 with h3; exact h3.symm⟩
              have KAT := Kept.mk hat
              clear hat hmore
              go_wp2_with (first | (go_at_call 84; refine (blank_t V.ps KB.out).mono ?_; rintro e w3 ⟨rfl, H3, hb3⟩; have B3 := Kept.mk (BW.out.trans hb3); clear hb3) | (go_at_call 56; refine (blanks_s H3).mono ?_; rintro e w4 ⟨rfl, H4, hb4⟩; have B4 := Kept.mk (B3.out.trans hb4); clear hb4) | (go_at_call 67; refine (peek_t H4).mono ?_; rintro e w5 ⟨rfl, H5, hb5⟩; have B5 := Kept.mk (B4.out.trans hb5); clear hb5) | (go_at_call 88; refine (waysS_no (attribute_s H5 HM.out HT.out hN) KAT.out).mono ?_; rintro e w6 ⟨rfl, hl6, hb6⟩; have B6 := Kept.mk (B5.out.trans hb6); clear hb6))
              exact ⟨rfl, B6.out, by rw [HX.out]; exact ⟨rfl, hl6⟩⟩
            | ok q2 =>
              obtain ⟨r2, st2⟩ := q2
              rw [hat] at hmore
              obtain ⟨a1, a2, a3, _, a5⟩ := Ppa.attrM_ok hat
              have a6 := a1.length_le
              have HE := Kept.mk hmore
              have HT2 := Kept.mk (a3 HT.out)
              have HM2 : Kept (Ppa.meas st2 r2 ≤ 300000) := ⟨by have := HM.out; omega⟩
              have KAT := Kept.mk hat
              clear hat hmore a1 a2 a3
              go_wp2_with (first | (go_at_call 84; refine (blank_t V.ps KB.out).mono ?_; rintro e w3 ⟨rfl, H3, hb3⟩; have B3 := Kept.mk (BW.out.trans hb3); clear hb3) | (go_at_call 56; refine (blanks_s H3).mono ?_; rintro e w4 ⟨rfl, H4, hb4⟩; have B4 := Kept.mk (B3.out.trans hb4); clear hb4) | (go_at_call 67; refine (peek_t H4).mono ?_; rintro e w5 ⟨rfl, H5, hb5⟩; have B5 := Kept.mk (B4.out.trans hb5); clear hb5) | (go_at_call 88; refine (waysS_ok (attribute_s H5 HM.out HT.out hN) KAT.out).mono ?_; rintro e w6 ⟨rfl, H6, hb6⟩; have B6 := Kept.mk (B5.out.trans hb6); clear hb6))
              go_roundg g
              case measure => omega
              case rel => exact ⟨r2, st2, ⟨H6, HM2.out, HT2.out, HE.out, by omega, by omega⟩, B6⟩
  case rest =>
    obtain ⟨r2, st2, HX, H3, B3, HM, HT, hl2⟩ := hcut
    have hto := KO.out
    rw [HX.out] at hto
    clear H1 H2 K1 KA KT KM KO
    by_cases h47 : r2.head? = some 47
    · obtain ⟨u, rfl⟩ := head_cons h47
      rw [tail_slash] at hto
      clear h47
      cases hmu : Ppa.mustL [62] u with
      | error r3 =>
        rw [hmu] at hto
        have HO : Kept (o = .error r3) := ⟨by injection hto with hto; exact hto.symm⟩
        have KU := Kept.mk hmu
        clear hmu hto
        go_wp2_with (first | (go_at_call 58; refine (may_yes 47 (by decide) H3).mono ?_; rintro e w4 ⟨rfl, H4, hb4⟩; have B4 := Kept.mk (B3.out.trans hb4); clear hb4) | (go_at_call 57; refine (must_s_no [62] (by decide) H4 KU.out).mono ?_; rintro e w5 ⟨rfl, hl5, hb5⟩; have B5 := Kept.mk (B4.out.trans hb5); clear hb5))
        exact ⟨rfl, B5.out, by rw [HO.out]; exact ⟨rfl, hl5⟩⟩
      | ok r3 =>
        rw [hmu] at hto
        have HO : Kept (o = .ok (r3, st2)) := ⟨by injection hto with hto; exact hto.symm⟩
        have KU := Kept.mk hmu
        clear hmu hto
        go_wp2_with (first | (go_at_call 58; refine (may_yes 47 (by decide) H3).mono ?_; rintro e w4 ⟨rfl, H4, hb4⟩; have B4 := Kept.mk (B3.out.trans hb4); clear hb4) | (go_at_call 57; refine (must_s_ok [62] (by decide) H4 KU.out).mono ?_; rintro e w5 ⟨rfl, H5, hb5⟩; have B5 := Kept.mk (B4.out.trans hb5); clear hb5))
        go_end0
        exact ⟨B5.out, by rw [HO.out]; exact ⟨rfl, H5⟩⟩
    · cases hmu : Ppa.mustL [62] r2 with
      | error r3 =>
        rw [tail_no h47 hmu] at hto
        have HO : Kept (o = .error r3) := ⟨by injection hto with hto; exact hto.symm⟩
        have KU := Kept.mk hmu
        have K47 := Kept.mk h47
        clear hmu hto h47
        go_wp2_with (first | (go_at_call 58; refine (may_not 47 (by decide) K47.out H3).mono ?_; rintro e w4 ⟨rfl, H4, hb4⟩; have B4 := Kept.mk (B3.out.trans hb4); clear hb4) | (go_at_call 57; refine (must_s_no [62] (by decide) H4 KU.out).mono ?_; rintro e w5 ⟨rfl, hl5, hb5⟩; have B5 := Kept.mk (B4.out.trans hb5); clear hb5))
        exact ⟨rfl, B5.out, by rw [HO.out]; exact ⟨rfl, hl5⟩⟩
      | ok r3 =>
        rw [tail_cont h47 hmu] at hto
        have l3 := (Ppa.mustL_suf hmu).length_le
        have m3 := meas_small (Ppa.mustL_suf hmu) HM.out
        have t3 := mustL_texts _ _ _ (by decide) HT.out hmu
        have KU := Kept.mk hmu
        have K47 := Kept.mk h47
        have hq9 : (q : Int) ≤ 300000 := by have h2 := KS.out; have h3 := KM2.out; unfold Ppa.meas at h3; omega
        cases hco : Ppa.contF s.size f (q : Int) d 0 r3 st2 with
        | none => rw [hco] at hto; cases hto
        | some oc =>
          have CC := Kept.mk (fun (wx : World) (hx : Ps B b s st2 r3 wx) => hC (q : Int) d st2 r3 wx oc hx m3 t3 (by omega) hq9 (by omega) hco)
          rw [hco] at hto
          clear hmu h47 hco m3 t3 hC
          cases oc with
          | error r4 =>
            have HO : Kept (o = .error r4) := ⟨by injection hto with hto; exact hto.symm⟩
            clear hto
            go_wp2_with (first | (go_at_call 58; refine (may_not 47 (by decide) K47.out H3).mono ?_; rintro e w4 ⟨rfl, H4, hb4⟩; have B4 := Kept.mk (B3.out.trans hb4); clear hb4) | (go_at_call 57; refine (must_s_ok [62] (by decide) H4 KU.out).mono ?_; rintro e w5 ⟨rfl, H5, hb5⟩; have B5 := Kept.mk (B4.out.trans hb5); clear hb5) | (go_at_call 42; refine (waysS_no (CC.out _ H5) rfl).mono ?_; rintro e w6 ⟨rfl, hl6, hb6⟩; have B6 := Kept.mk (B5.out.trans hb6); clear hb6))
            exact ⟨rfl, B6.out, by rw [HO.out]; exact ⟨rfl, hl6⟩⟩
          | ok q4 =>
            obtain ⟨r4, st4⟩ := q4
            dsimp only at hto
            unfold Ppa.closeM at hto
            cases hag : Ppa.againL nm r4 with
            | error r5 =>
              rw [hag] at hto
              have HO : Kept (o = .error r5) := ⟨by injection hto with hto; exact hto.symm⟩
              have KG := Kept.mk hag
              clear hto hag
              go_wp2_with (first | (go_at_call 58; refine (may_not 47 (by decide) K47.out H3).mono ?_; rintro e w4 ⟨rfl, H4, hb4⟩; have B4 := Kept.mk (B3.out.trans hb4); clear hb4) | (go_at_call 57; clear TG0; refine (must_s_ok [62] (by decide) H4 KU.out).mono ?_; rintro e w5 ⟨rfl, H5, hb5⟩; have B5 := Kept.mk (B4.out.trans hb5); clear hb5) | (go_at_call 42; refine (waysS_ok (CC.out _ H5) rfl).mono ?_; rintro e w6 ⟨rfl, H6, hb6⟩; have B6 := Kept.mk (B5.out.trans hb6); clear hb6) | (go_at_call 57; refine (again_s_no H6 KG.out).mono ?_; rintro e w7 ⟨rfl, hl7, hb7⟩; have B7 := Kept.mk (B6.out.trans hb7); clear hb7))
              exact ⟨rfl, B7.out, by rw [HO.out]; exact ⟨rfl, hl7⟩⟩
            | ok r5 =>
              rw [hag] at hto
              dsimp only at hto
              have KG := Kept.mk hag
              clear hag
              cases hme : Ppa.mustL [62] (Ppa.blanksL r5) with
              | error r6 =>
                rw [hme] at hto
                have HO : Kept (o = .error r6) := ⟨by injection hto with hto; exact hto.symm⟩
                have KE := Kept.mk hme
                clear hto hme
                go_wp2_with (first | (go_at_call 58; refine (may_not 47 (by decide) K47.out H3).mono ?_; rintro e w4 ⟨rfl, H4, hb4⟩; have B4 := Kept.mk (B3.out.trans hb4); clear hb4) | (go_at_call 57; clear TG0; refine (must_s_ok [62] (by decide) H4 KU.out).mono ?_; rintro e w5 ⟨rfl, H5, hb5⟩; have B5 := Kept.mk (B4.out.trans hb5); clear hb5) | (go_at_call 42; refine (waysS_ok (CC.out _ H5) rfl).mono ?_; rintro e w6 ⟨rfl, H6, hb6⟩; have B6 := Kept.mk (B5.out.trans hb6); clear hb6) | (go_at_call 57; clear TG1; refine (again_s_ok H6 KG.out).mono ?_; rintro e w7 ⟨rfl, H7, hb7⟩; have B7 := Kept.mk (B6.out.trans hb7); clear hb7) | (go_at_call 56; refine (blanks_s H7).mono ?_; rintro e w8 ⟨rfl, H8, hb8⟩; have B8 := Kept.mk (B7.out.trans hb8); clear hb8) | (go_at_call 57; refine (must_s_no [62] (by decide) H8 KE.out).mono ?_; rintro e w9 ⟨rfl, hl9, hb9⟩; have B9 := Kept.mk (B8.out.trans hb9); clear hb9))
                exact ⟨rfl, B9.out, by rw [HO.out]; exact ⟨rfl, hl9⟩⟩
              | ok r6 =>
                rw [hme] at hto
                have HO : Kept (o = .ok (r6, st4)) := ⟨by injection hto with hto; exact hto.symm⟩
                have KE := Kept.mk hme
                clear hto hme
                go_wp2_with (first | (go_at_call 58; refine (may_not 47 (by decide) K47.out H3).mono ?_; rintro e w4 ⟨rfl, H4, hb4⟩; have B4 := Kept.mk (B3.out.trans hb4); clear hb4) | (go_at_call 57; clear TG0; refine (must_s_ok [62] (by decide) H4 KU.out).mono ?_; rintro e w5 ⟨rfl, H5, hb5⟩; have B5 := Kept.mk (B4.out.trans hb5); clear hb5) | (go_at_call 42; refine (waysS_ok (CC.out _ H5) rfl).mono ?_; rintro e w6 ⟨rfl, H6, hb6⟩; have B6 := Kept.mk (B5.out.trans hb6); clear hb6) | (go_at_call 57; clear TG1; refine (again_s_ok H6 KG.out).mono ?_; rintro e w7 ⟨rfl, H7, hb7⟩; have B7 := Kept.mk (B6.out.trans hb7); clear hb7) | (go_at_call 56; refine (blanks_s H7).mono ?_; rintro e w8 ⟨rfl, H8, hb8⟩; have B8 := Kept.mk (B7.out.trans hb8); clear hb8) | (go_at_call 57; refine (must_s_ok [62] (by decide) H8 KE.out).mono ?_; rintro e w9 ⟨rfl, H9, hb9⟩; have B9 := Kept.mk (B8.out.trans hb9); clear hb9))
                go_end0
                exact ⟨B9.out, by rw [HO.out]; exact ⟨rfl, H9⟩⟩
set_option maxRecDepth 100000 in
theorem element_n {B b d : Nat} {s : ByteArray} {st : Ppa.St} {r r1 : Ppa.Bs} {w : World} (p : Int) (h : Ps B b s st r w) (hr : 1 ≤ s.size - r.length) (h1 : Ppa.nameM r = .error r1) :
    Calls Tryz.prog 62 #[.pointer (some ⟨b, 0, none⟩), .int .i64 p, .int .i64 (d : Int)] w fun e w' => WaysS B b s w (.tuple #[]) (.error r1) e w' := by
  obtain ⟨k, hk, c1⟩ := h.at_
  have hsm := h.small
  have i0 : (1 : Int) ≤ (k : Int) := by omega
  have i1 : (k : Int) ≤ 65536 := by omega
  have K1 := Kept.mk h1
  clear h1
  go_enter Tryz.func62, Tryz.ntmps62
  go_wp2_with (go_at_call 85; refine (name_s_no h K1.out).mono ?_; rintro e w1 ⟨rfl, hl1, hb1⟩)
  exact ⟨rfl, hb1, rfl, hl1⟩
theorem element_s {B b f d : Nat} {s : ByteArray} {st : Ppa.St} {r : Ppa.Bs} {w : World} (p : Int) (hC : ContC B b s f) (h : Ps B b s st r w) (hm : Ppa.meas st r ≤ 300000) (ht : Pch.textsL r = true) (hd : d + r.length ≤ 100000) (hr : 1 ≤ s.size - r.length) {o : Except Ppa.Bs (Ppa.Bs × Ppa.St)} (he : Ppa.elemF s.size (f + 1) p d r st = some o) :
    Calls Tryz.prog 62 #[.pointer (some ⟨b, 0, none⟩), .int .i64 p, .int .i64 (d : Int)] w fun e w' => WaysS B b s w (.tuple #[]) o e w' := by
  rw [Ppa.elemF_eq] at he
  cases h1 : Ppa.nameM r with
  | error r1 =>
    rw [h1] at he
    injection he with he
    rw [← he]
    exact element_n p h hr h1
  | ok q =>
    obtain ⟨nm, r1⟩ := q
    rw [h1] at he
    dsimp only at he
    cases ha : Ppa.attrsF s.size (Ppa.elemS s.size p d r nm st).nodes.length.pred (f + 1) r1 (Ppa.elemS s.size p d r nm st) with
    | none => rw [ha] at he; cases he
    | some oA =>
      have ho : tailM s.size f nm (Ppa.elemS s.size p d r nm st).nodes.length.pred d oA = some o := by
        rw [ha] at he
        rw [← he]
        cases oA with
        | error r2 => rfl
        | ok q2 =>
          obtain ⟨r2, s2⟩ := q2
          by_cases h47 : ∃ t, r2 = 47 :: t
          · obtain ⟨t, rfl⟩ := h47
            rfl
          · unfold tailM
            refine (Ppa.match47 h47 _ _).trans ?_
            symm
            exact Ppa.match47 h47 _ _
      by_cases hA : 60 < d
      · by_cases hA2 : st.deep < 0
        · exact element_b p hC h hm ht hd h1 ha ho hr hA hA2
        · exact element_c p hC h hm ht hd h1 ha ho hr hA hA2
      · exact element_a p hC h hm ht hd h1 ha ho hr hA
end Go.Proofs.YtemfmidhekdekaaGreatDoor.Wps
namespace Go.Proofs.YtemfmidhekdekaaGreatDoor.Wps
open Go Go.RowKit Go.Proofs.YtemfmidhekdekaaGreatDoor.Kb Go.Proofs.YtemfmidhekdekaaGreatDoor.Wch Go.Proofs.YtemfmidhekdekaaGreatDoor.Emk

theorem lies_par (s : ByteArray) (k : Nat) (nv : Value) (st : Ppa.St) : liesAt Tryz.prog Tryz.prog.depth 54 (((preS s k nv).length + 2 + (postS st).length) / Tryz.prog.cellsOf 54) (preS s k nv).length 52 1 = true := by
  show liesAt Tryz.prog Tryz.prog.depth 54 ((3 + 2 + 2) / Tryz.prog.cellsOf 54) 3 52 1 = true
  kernel_rfl
section
variable {B b : Nat} {s : ByteArray} {st : Ppa.St} {r : Ppa.Bs} {w w' : World}
theorem Ps.write (h : Ps B b s st r w) {A : Option Addr} {c : Nat} {p v : Value} (X : Px B b s st (s.size - r.length) A c p v w) {acc : Ppa.Bs} (hI : Is 54 (preS s (s.size - r.length) (.slice A st.nodes.length c)) (postS st) B b acc w') (hb : Below B w w') (hk : Lib.OthersKept 5 (some b) w w') : Ps B b s { st with text := acc } r w' :=
  ⟨⟨A, c, hI, nds_kept X.nds X.ndsn hk⟩, h.suf, h.ev.below hb, h.le, h.small⟩
theorem write_t (v : Ppa.Bs) (h : Ps B b s st r w) (hl : st.text.length + v.length ≤ 1000000) :
    Calls Tryz.prog 43 #[.pointer (some ⟨b, 3, none⟩), .string ⟨v.toArray⟩] w fun e w' => (∃ n : Int, e = .returned (.tuple #[.int .i64 n, .nilIface])) ∧ Ps B b s { st with text := st.text ++ v } r w' ∧ Bel B b w w' := by
  obtain ⟨A, c, p, q, X⟩ := h.px
  have h1 := write_any ⟨v.toArray⟩ (by decide) h.le X.is (lies_par s _ _ st) (by rw [Lib.size_mk]; omega)
  exact h1.mono fun e w' ⟨he, hI, hb, hk⟩ => ⟨⟨_, he⟩, h.write X hI hb hk, Bel.others hb hk⟩
theorem byte_t (x : UInt8) (h : Ps B b s st r w) (hl : st.text.length ≤ 1000000) :
    Calls Tryz.prog 44 #[.pointer (some ⟨b, 3, none⟩), .int .u8 (x.toNat : Int)] w fun e w' => e = .returned .nilIface ∧ Ps B b s { st with text := st.text ++ [x] } r w' ∧ Bel B b w w' := by
  obtain ⟨A, c, p, q, X⟩ := h.px
  have h1 := byte_any x (by decide) h.le X.is (lies_par s _ _ st) (by omega)
  exact h1.mono fun e w' ⟨he, hI, hb, hk⟩ => ⟨he, h.write X hI hb hk, Bel.others hb hk⟩
theorem rune_t (x : Int) (h0 : -2147483648 ≤ x) (h1 : x ≤ 2147483647) (h : Ps B b s st r w) (hl : st.text.length ≤ 1000000) :
    Calls Tryz.prog 70 #[.pointer (some ⟨b, 3, none⟩), .int .i32 x] w fun e w' => (∃ n : Int, e = .returned (.tuple #[.int .i64 n, .nilIface])) ∧ Ps B b s { st with text := st.text ++ Lib.encodeRune x } r w' ∧ Bel B b w w' := by
  obtain ⟨A, c, p, q, X⟩ := h.px
  have h1 := rune_any x h0 h1 (by decide) h.le X.is (lies_par s _ _ st) (by omega)
  exact h1.mono fun e w' ⟨he, hI, hb, hk⟩ => ⟨he, h.write X hI hb hk, Bel.others hb hk⟩
end
/-- what markup is read as, at so much fuel -/
def MarkC (B b : Nat) (s : ByteArray) (f : Nat) : Prop := ∀ (p : Int) (d : Nat) (st : Ppa.St) (r : Ppa.Bs) (w : World) (o : Except Ppa.Bs (Ppa.Bs × Ppa.St)), Ps B b s st r w → Ppa.meas st r ≤ 300000 → Pch.textsL r = true → d + r.length + 1 ≤ 100000 → 1 ≤ s.size - r.length → Ppa.markF s.size f p d r st = some o →
  Calls Tryz.prog 69 #[.pointer (some ⟨b, 0, none⟩), .int .i64 p, .int .i64 (d : Int)] w fun e w' => WaysS B b s w (.tuple #[]) o e w'
/-- a cdata, behind its <! -/
def cdataM (t : Ppa.Bs) (s : Ppa.St) : Except Ppa.Bs (Ppa.Bs × Ppa.St) := match Ppa.mustL [91, 67, 68, 65, 84, 65, 91] t with
      | .error r1 => .error r1
      | .ok r1 => match Ppa.untilR [93, 93, 62] r1 with
        | .error r2 => .error r2
        | .ok (v, r2) => .ok (r2, { s with text := s.text ++ Ppa.said v })
theorem mark_elem {N f : Nat} {p : Int} {d : Nat} {r : Ppa.Bs} {st : Ppa.St} (h1 : r.head? ≠ some 63) (h2 : r.head? ≠ some 33) : Ppa.markF N (f + 1) p d r st = Ppa.elemF N f p (d + 1) r st := by
  unfold Ppa.markF
  split
  · exact absurd rfl h1
  · exact absurd rfl h2
  · exact absurd rfl h2
  · rfl
theorem mark_cdata {N f : Nat} {p : Int} {d : Nat} {t : Ppa.Bs} {st : Ppa.St} (h1 : t.head? ≠ some 45) : Ppa.markF N (f + 1) p d (33 :: t) st = some (cdataM t st) := by
  unfold Ppa.markF
  split
  · rename_i e
    cases e
  · rename_i e
    injection e with _ e
    rw [e] at h1
    exact absurd rfl h1
  · rename_i e
    injection e with _ e
    subst e
    rfl
  · rename_i e
    exact absurd rfl (e t)
theorem mark_instr {N f : Nat} {p : Int} {d : Nat} {t : Ppa.Bs} {st : Ppa.St} : Ppa.markF N (f + 1) p d (63 :: t) st = some (Ppa.instrM p t st) := by rw [Ppa.markF]
theorem mark_comm {N f : Nat} {p : Int} {d : Nat} {t : Ppa.Bs} {st : Ppa.St} : Ppa.markF N (f + 1) p d (33 :: 45 :: t) st = some (Ppa.commM p t st) := by rw [Ppa.markF]
set_option maxRecDepth 100000 in
set_option maxHeartbeats 2000000 in
theorem markup_s {B b f : Nat} {s : ByteArray} (hC : ∀ g, g < f → ContC B b s g) : MarkC B b s (f + 1) := by
  intro p d st r w o h hm ht hd hr he
  have B0 : Kept (Bel B b w w) := ⟨Bel.refl _ _ _⟩
  have hsm := h.small
  have hlen := h.len
  have TG0 : Kept True := ⟨trivial⟩
  have TG1 : Kept True := ⟨trivial⟩
  by_cases h1 : r.head? = some 63
  · obtain ⟨t, rfl⟩ := head_cons h1
    have hm1 := meas_small (List.suffix_cons 63 t) hm
    rw [mark_instr] at he
    have HE : Kept (Ppa.instrM p t st = o) := ⟨by injection he⟩
    clear he h1
    cases o with
    | error r1 =>
      go_enter Tryz.func69, Tryz.ntmps69
      go_wp2_with (first | (go_at_call 58; refine (may_yes 63 (by decide) h).mono ?_; rintro e w1 ⟨rfl, H1, hb1⟩; have B1 := Kept.mk (B0.out.trans hb1); clear hb1) | (go_at_call 59; refine (waysS_no (instruction_s p H1 hm1) HE.out).mono ?_; rintro e w2 ⟨rfl, hl2, hb2⟩; have B2 := Kept.mk (B1.out.trans hb2); clear hb2))
      exact ⟨rfl, B2.out, rfl, hl2⟩
    | ok q1 =>
      obtain ⟨r1, st1⟩ := q1
      go_enter Tryz.func69, Tryz.ntmps69
      go_wp2_with (first | (go_at_call 58; refine (may_yes 63 (by decide) h).mono ?_; rintro e w1 ⟨rfl, H1, hb1⟩; have B1 := Kept.mk (B0.out.trans hb1); clear hb1) | (go_at_call 59; refine (waysS_ok (instruction_s p H1 hm1) HE.out).mono ?_; rintro e w2 ⟨rfl, H2, hb2⟩; have B2 := Kept.mk (B1.out.trans hb2); clear hb2))
      go_end0
      exact ⟨B2.out, rfl, H2⟩
  · by_cases h2 : r.head? = some 33
    · obtain ⟨u, rfl⟩ := head_cons h2
      have hm1 := meas_small (List.suffix_cons 33 u) hm
      have K1 := Kept.mk h1
      have ht1 := Ppa.texts_low (by decide) ht
      clear h1 h2
      by_cases h3 : u.head? = some 45
      · obtain ⟨t, rfl⟩ := head_cons h3
        have hm2 := meas_small (List.suffix_cons 45 t) hm1
        rw [mark_comm] at he
        have HE : Kept (Ppa.commM p t st = o) := ⟨by injection he⟩
        clear he h3
        cases o with
        | error r1 =>
          go_enter Tryz.func69, Tryz.ntmps69
          go_wp2_with (first | (go_at_call 58; clear TG0; refine (may_not 63 (by decide) K1.out h).mono ?_; rintro e w1 ⟨rfl, H1, hb1⟩; have B1 := Kept.mk (B0.out.trans hb1); clear hb1) | (go_at_call 58; clear TG1; refine (may_yes 33 (by decide) H1).mono ?_; rintro e w2 ⟨rfl, H2, hb2⟩; have B2 := Kept.mk (B1.out.trans hb2); clear hb2) | (go_at_call 58; refine (may_yes 45 (by decide) H2).mono ?_; rintro e w3 ⟨rfl, H3, hb3⟩; have B3 := Kept.mk (B2.out.trans hb3); clear hb3) | (go_at_call 60; refine (waysS_no (comment_s p H3 hm2) HE.out).mono ?_; rintro e w4 ⟨rfl, hl4, hb4⟩; have B4 := Kept.mk (B3.out.trans hb4); clear hb4))
          exact ⟨rfl, B4.out, rfl, hl4⟩
        | ok q1 =>
          obtain ⟨r1, st1⟩ := q1
          go_enter Tryz.func69, Tryz.ntmps69
          go_wp2_with (first | (go_at_call 58; clear TG0; refine (may_not 63 (by decide) K1.out h).mono ?_; rintro e w1 ⟨rfl, H1, hb1⟩; have B1 := Kept.mk (B0.out.trans hb1); clear hb1) | (go_at_call 58; clear TG1; refine (may_yes 33 (by decide) H1).mono ?_; rintro e w2 ⟨rfl, H2, hb2⟩; have B2 := Kept.mk (B1.out.trans hb2); clear hb2) | (go_at_call 58; refine (may_yes 45 (by decide) H2).mono ?_; rintro e w3 ⟨rfl, H3, hb3⟩; have B3 := Kept.mk (B2.out.trans hb3); clear hb3) | (go_at_call 60; refine (waysS_ok (comment_s p H3 hm2) HE.out).mono ?_; rintro e w4 ⟨rfl, H4, hb4⟩; have B4 := Kept.mk (B3.out.trans hb4); clear hb4))
          go_end0
          exact ⟨B4.out, rfl, H4⟩
      · rw [mark_cdata h3] at he
        have HE : cdataM u st = o := by injection he
        unfold cdataM at HE
        have K3 := Kept.mk h3
        clear he h3
        cases hmu : Ppa.mustL [91, 67, 68, 65, 84, 65, 91] u with
        | error r1 =>
          rw [hmu] at HE
          have HX := Kept.mk HE.symm
          have KU := Kept.mk hmu
          clear hmu HE
          go_enter Tryz.func69, Tryz.ntmps69
          go_wp2_with (first | (go_at_call 58; clear TG0; refine (may_not 63 (by decide) K1.out h).mono ?_; rintro e w1 ⟨rfl, H1, hb1⟩; have B1 := Kept.mk (B0.out.trans hb1); clear hb1) | (go_at_call 58; clear TG1; refine (may_yes 33 (by decide) H1).mono ?_; rintro e w2 ⟨rfl, H2, hb2⟩; have B2 := Kept.mk (B1.out.trans hb2); clear hb2) | (go_at_call 58; refine (may_not 45 (by decide) K3.out H2).mono ?_; rintro e w3 ⟨rfl, H3, hb3⟩; have B3 := Kept.mk (B2.out.trans hb3); clear hb3) | (go_at_call 57; refine (must_s_no [91, 67, 68, 65, 84, 65, 91] (by decide) H3 KU.out).mono ?_; rintro e w4 ⟨rfl, hl4, hb4⟩; have B4 := Kept.mk (B3.out.trans hb4); clear hb4))
          exact ⟨rfl, B4.out, by rw [HX.out]; exact ⟨rfl, hl4⟩⟩
        | ok r1 =>
          rw [hmu] at HE
          dsimp only at HE
          have KU := Kept.mk hmu
          have l1 := (Ppa.mustL_suf hmu).length_le
          simp only [List.length_cons] at hlen
          clear hmu
          cases hun : Ppa.untilR [93, 93, 62] r1 with
          | error r2 =>
            rw [hun] at HE
            have HX := Kept.mk HE.symm
            have KN := Kept.mk hun
            clear hun HE
            go_enter Tryz.func69, Tryz.ntmps69
            go_wp2_with (first | (go_at_call 58; clear TG0; refine (may_not 63 (by decide) K1.out h).mono ?_; rintro e w1 ⟨rfl, H1, hb1⟩; have B1 := Kept.mk (B0.out.trans hb1); clear hb1) | (go_at_call 58; clear TG1; refine (may_yes 33 (by decide) H1).mono ?_; rintro e w2 ⟨rfl, H2, hb2⟩; have B2 := Kept.mk (B1.out.trans hb2); clear hb2) | (go_at_call 58; refine (may_not 45 (by decide) K3.out H2).mono ?_; rintro e w3 ⟨rfl, H3, hb3⟩; have B3 := Kept.mk (B2.out.trans hb3); clear hb3) | (go_at_call 57; refine (must_s_ok [91, 67, 68, 65, 84, 65, 91] (by decide) H3 KU.out).mono ?_; rintro e w4 ⟨rfl, H4, hb4⟩; have B4 := Kept.mk (B3.out.trans hb4); clear hb4))
            have H5 : Ps B b s st r1 w4.drew := H4.below (Below.refl _ _).drew
            have B5 : Kept (Bel B b w w4.drew) := ⟨B4.out.drew⟩
            go_region_dies
            all_goals
              go_at_call 86
              refine (until_s_no [93, 93, 62] (by decide) (by decide) H5 KN.out).mono ?_
              rintro e w6 ⟨rfl, hl6, hb6⟩
              exact ⟨rfl, B5.out.trans hb6, by rw [HX.out]; exact ⟨rfl, hl6⟩⟩
          | ok q2 =>
            obtain ⟨v, r2⟩ := q2
            rw [hun] at HE
            dsimp only at HE
            have HX := Kept.mk HE.symm
            have KN := Kept.mk hun
            have hv : v.length ≤ r1.length := by rw [Ppa.untilR_ok hun]; simp
            have hv2 := Ppa.said_le v
            have hte : st.text.length ≤ 300000 := by unfold Ppa.meas at hm; omega
            clear hun HE
            go_enter Tryz.func69, Tryz.ntmps69
            go_wp2_with (first | (go_at_call 58; clear TG0; refine (may_not 63 (by decide) K1.out h).mono ?_; rintro e w1 ⟨rfl, H1, hb1⟩; have B1 := Kept.mk (B0.out.trans hb1); clear hb1) | (go_at_call 58; clear TG1; refine (may_yes 33 (by decide) H1).mono ?_; rintro e w2 ⟨rfl, H2, hb2⟩; have B2 := Kept.mk (B1.out.trans hb2); clear hb2) | (go_at_call 58; refine (may_not 45 (by decide) K3.out H2).mono ?_; rintro e w3 ⟨rfl, H3, hb3⟩; have B3 := Kept.mk (B2.out.trans hb3); clear hb3) | (go_at_call 57; refine (must_s_ok [91, 67, 68, 65, 84, 65, 91] (by decide) H3 KU.out).mono ?_; rintro e w4 ⟨rfl, H4, hb4⟩; have B4 := Kept.mk (B3.out.trans hb4); clear hb4))
            have H5 : Ps B b s st r1 w4.drew := H4.below (Below.refl _ _).drew
            have B5 : Kept (Bel B b w w4.drew) := ⟨B4.out.drew⟩
            go_region_law (first
              | (go_simp; go_at_call 86; refine (until_s_ok [93, 93, 62] (by decide) (by decide) H5 KN.out).mono ?_; rintro e w6 ⟨rfl, H6, hb6⟩; have B6 := Kept.mk (B5.out.trans hb6); clear hb6)
              | (go_simp; go_at_call 87; refine (lines_t H6 v (by omega)).mono ?_; rintro e w7 ⟨rfl, H7, hb7⟩; have B7 := Kept.mk (B6.out.trans hb7); clear hb7)
              | (go_simp; go_at_call 43; refine (write_t (Ppa.said v) H7 (by omega)).mono ?_; rintro e w8 ⟨⟨n8, rfl⟩, H8, hb8⟩; have B8 := Kept.mk (B7.out.trans hb8); clear hb8))
            all_goals
              go_wp2
              go_end0
              exact ⟨B8.out, by rw [HX.out]; exact ⟨rfl, H8⟩⟩
    · rw [mark_elem h1 h2] at he
      obtain ⟨f', rfl⟩ : ∃ f', f = f' + 1 := by
        cases f with
        | zero => unfold Ppa.elemF at he; cases he
        | succ f => exact ⟨f, rfl⟩
      have K1 := Kept.mk h1
      have K2 := Kept.mk h2
      have CE := Kept.mk (fun (wx : World) (hx : Ps B b s st r wx) => element_s p (hC f' (by omega)) hx hm ht (d := d + 1) (by omega) hr he)
      have i0 : (0 : Int) ≤ (d : Int) := by omega
      have i1 : (d : Int) ≤ 100000 := by omega
      have i2 : ((d : Int) + 1) = ((d + 1 : Nat) : Int) := by omega
      have KI := Kept.mk i2
      clear h1 h2 he hC i2
      cases o with
      | error r1 =>
        go_enter Tryz.func69, Tryz.ntmps69
        go_wp2_with (first | (go_at_call 58; clear TG0; refine (may_not 63 (by decide) K1.out h).mono ?_; rintro e w1 ⟨rfl, H1, hb1⟩; have B1 := Kept.mk (B0.out.trans hb1); clear hb1) | (go_at_call 58; refine (may_not 33 (by decide) K2.out H1).mono ?_; rintro e w2 ⟨rfl, H2, hb2⟩; have B2 := Kept.mk (B1.out.trans hb2); clear hb2) | (go_at_call 62; rw [KI.out]; refine (waysS_no (CE.out _ H2) rfl).mono ?_; rintro e w3 ⟨rfl, hl3, hb3⟩; have B3 := Kept.mk (B2.out.trans hb3); clear hb3))
        exact ⟨rfl, B3.out, rfl, hl3⟩
      | ok q1 =>
        obtain ⟨r1, st1⟩ := q1
        go_enter Tryz.func69, Tryz.ntmps69
        go_wp2_with (first | (go_at_call 58; clear TG0; refine (may_not 63 (by decide) K1.out h).mono ?_; rintro e w1 ⟨rfl, H1, hb1⟩; have B1 := Kept.mk (B0.out.trans hb1); clear hb1) | (go_at_call 58; refine (may_not 33 (by decide) K2.out H1).mono ?_; rintro e w2 ⟨rfl, H2, hb2⟩; have B2 := Kept.mk (B1.out.trans hb2); clear hb2) | (go_at_call 62; rw [KI.out]; refine (waysS_ok (CE.out _ H2) rfl).mono ?_; rintro e w3 ⟨rfl, H3, hb3⟩; have B3 := Kept.mk (B2.out.trans hb3); clear hb3))
        go_end0
        exact ⟨B3.out, rfl, H3⟩
end Go.Proofs.YtemfmidhekdekaaGreatDoor.Wps
namespace Go.Proofs.YtemfmidhekdekaaGreatDoor.Wps
open Go Go.RowKit Go.Proofs.YtemfmidhekdekaaGreatDoor.Kb Go.Proofs.YtemfmidhekdekaaGreatDoor.Wch Go.Proofs.YtemfmidhekdekaaGreatDoor.Emk

/-- where a content stands -/
structure Co (B b : Nat) (s : ByteArray) (p : Int) (d F : Nat) (o : Except Ppa.Bs (Ppa.Bs × Ppa.St)) (g run : Nat) (st : Ppa.St) (r : Ppa.Bs) (w : World) : Prop where
  ps : Ps B b s st r w
  m : Ppa.meas st r ≤ 300000
  tx : Pch.textsL r = true
  eq : Ppa.contF s.size g p d run r st = some o
  dl : d + r.length ≤ 100000
  gF : g ≤ F
  rn : run + r.length ≤ 65536
section
variable {N g d run : Nat} {p : Int} {st : Ppa.St}
theorem cont_end (h : p < 0) : Ppa.contF N (g + 1) p d run [] st = some (.ok ([], Ppa.flush st p)) := by rw [Ppa.contF, if_pos h]
theorem cont_lack (h : ¬ p < 0) : Ppa.contF N (g + 1) p d run [] st = some (.error []) := by rw [Ppa.contF, if_neg h]
theorem cont_bad {t : Ppa.Bs} (h : 2 ≤ run) : Ppa.contF N (g + 1) p d run (62 :: t) st = some (.error (62 :: t)) := by rw [Ppa.contF, if_pos ⟨rfl, h⟩]
theorem cont_close {t : Ppa.Bs} (h : 0 ≤ p) : Ppa.contF N (g + 1) p d run (60 :: 47 :: t) st = some (.ok (t, Ppa.flush st p)) := by
  rw [Ppa.contF, if_neg (by rintro ⟨h, _⟩; cases h), if_pos rfl, if_pos ⟨h, rfl⟩]
  rfl
theorem cont_mark {t : Ppa.Bs} (h : ¬ (0 ≤ p ∧ t.head? = some 47)) : Ppa.contF N (g + 1) p d run (60 :: t) st = match Ppa.markF N g p d t st with | some (.ok (r', s')) => Ppa.contF N g p d 0 r' s' | o => o := by
  rw [Ppa.contF, if_neg (by rintro ⟨h, _⟩; cases h), if_pos rfl, if_neg h]
  rfl
theorem cont_ref {t : Ppa.Bs} : Ppa.contF N (g + 1) p d run (38 :: t) st = match Ppa.refM t with | .ok (n, r') => Ppa.contF N g p d 0 r' { st with text := st.text ++ Lib.encodeRune n } | .error r' => some (.error r') := by
  rw [Ppa.contF, if_neg (by rintro ⟨h, _⟩; cases h), if_neg (by decide), if_pos rfl]
  rfl
theorem cont_cr {t : Ppa.Bs} : Ppa.contF N (g + 1) p d run (13 :: t) st = Ppa.contF N g p d 0 (Ppa.nlL t) { st with text := st.text ++ [10] } := by
  rw [Ppa.contF, if_neg (by rintro ⟨h, _⟩; cases h), if_neg (by decide), if_neg (by decide), if_pos rfl]
theorem cont_char {x : UInt8} {t : Ppa.Bs} (h0 : ¬ (x = 62 ∧ 2 ≤ run)) (h1 : x ≠ 60) (h2 : x ≠ 38) (h3 : x ≠ 13) : Ppa.contF N (g + 1) p d run (x :: t) st = Ppa.contF N g p d (if x = 93 then run + 1 else 0) t { st with text := st.text ++ [x] } := by
  rw [Ppa.contF, if_neg h0, if_neg h1, if_neg h2, if_neg h3]
end
theorem cont_short {N : Nat} {o : Except Ppa.Bs (Ppa.Bs × Ppa.St)} : ∀ (u : Ppa.Bs) (f : Nat) (p : Int) (d run : Nat) (t : Ppa.Bs) (s : Ppa.St), (∀ y ∈ u, 128 ≤ y.toNat) → f < u.length → Ppa.contF N f p d run (u ++ t) s = some o → False
  | [], f, _, _, _, _, _, _, hf, _ => by simp at hf
  | x :: u, 0, p, d, run, t, s, _, _, he => by unfold Ppa.contF at he; cases he
  | x :: u, f + 1, p, d, run, t, s, h, hf, he => by
    rw [List.cons_append, Ppa.contF_high N f p d run x (u ++ t) s (h x (by simp))] at he
    exact cont_short u f p d 0 t _ (fun y hy => h y (by simp [hy])) (by simpa using hf) he
/-- a character is copied -/
theorem cont_copy {N g d run : Nat} {p : Int} {st : Ppa.St} {x : UInt8} {t : Ppa.Bs} {o : Except Ppa.Bs (Ppa.Bs × Ppa.St)} (ht : Pch.textsL (x :: t) = true) (h0 : ¬ (x = 62 ∧ 2 ≤ run)) (h1 : x ≠ 60) (h2 : x ≠ 38) (h3 : x ≠ 13) (he : Ppa.contF N (g + 1) p d run (x :: t) st = some o) :
    ∃ g', g' < g + 1 ∧ Ppa.contF N g' p d (if x = 93 then run + 1 else 0) (Ppa.skip (x :: t)) { st with text := st.text ++ Lib.encodeRune (Ppa.peek (x :: t)) } = some o := by
  have hne : (x :: t) ≠ [] := by simp
  have hcb := Ppa.char_bytes hne ht
  rw [peek_has hne, hcb]
  rcases Nat.lt_or_ge x.toNat 128 with hx | hx
  · rw [cont_char h0 h1 h2 h3] at he
    unfold Ppa.skip
    rw [Lib.decodeL_ascii x t hx]
    exact ⟨g, by omega, he⟩
  · have hd2 := Lib.decodeL_le (x :: t) hne
    have hd1 := Lib.decodeL_width (x :: t)
    have h93 : ¬ x = 93 := fun e => by subst e; revert hx; decide
    rw [if_neg h93]
    have hz : ((x :: t).take (Lib.decodeL (x :: t)).2).length = (Lib.decodeL (x :: t)).2 := by rw [List.length_take]; omega
    rcases Nat.lt_or_ge (g + 1) (Lib.decodeL (x :: t)).2 with hg | hg
    · exfalso
      exact cont_short ((x :: t).take (Lib.decodeL (x :: t)).2) (g + 1) p d run ((x :: t).drop (Lib.decodeL (x :: t)).2) st (Ppa.char_high hx ht) (by omega) (by rw [List.take_append_drop]; exact he)
    · have hc := Ppa.contF_copy N ((x :: t).take (Lib.decodeL (x :: t)).2) (g + 1 - (Lib.decodeL (x :: t)).2) p d run ((x :: t).drop (Lib.decodeL (x :: t)).2) st (by intro e; rw [e] at hz; simp at hz; omega) (Ppa.char_high hx ht)
      rw [hz, List.take_append_drop, show g + 1 - (Lib.decodeL (x :: t)).2 + (Lib.decodeL (x :: t)).2 = g + 1 by omega, he] at hc
      exact ⟨g + 1 - (Lib.decodeL (x :: t)).2, by omega, hc.symm⟩
theorem nl_texts {u : Ppa.Bs} (h : Pch.textsL u = true) : Pch.textsL (Ppa.nlL u) = true := by
  unfold Ppa.nlL
  split
  · exact Ppa.texts_low (by decide) h
  · exact h
theorem may_nl {B b : Nat} {s : ByteArray} {st : Ppa.St} {r : Ppa.Bs} {w : World} (h : Ps B b s st r w) : Calls Tryz.prog 58 #[.pointer (some ⟨b, 0, none⟩), .int .i32 10] w fun e w' => (∃ x : Bool, e = .returned (.bool x)) ∧ Ps B b s st (Ppa.nlL r) w' ∧ Bel B b w w' := by
  by_cases h1 : r.head? = some 10
  · obtain ⟨t, rfl⟩ := head_cons h1
    exact (may_yes 10 (by decide) h).mono fun _ _ ⟨he, hp, hb⟩ => ⟨⟨_, he⟩, hp, hb⟩
  · have hn : Ppa.nlL r = r := by
      unfold Ppa.nlL
      split
      · exact absurd rfl h1
      · rfl
    rw [hn]
    exact (may_not 10 (by decide) h1 h).mono fun _ _ ⟨he, hp, hb⟩ => ⟨⟨_, he⟩, hp, hb⟩
set_option maxRecDepth 100000 in
set_option maxHeartbeats 4000000 in
theorem content_s {B b F : Nat} {s : ByteArray} (hM : ∀ g, g < F → MarkC B b s g) : ContC B b s F := by
  intro p d st r w o h hm ht hp0 hp1 hd he
  have B00 : Kept (Bel B b w w) := ⟨Bel.refl _ _ _⟩
  have hsm := h.small
  have hlen := h.len
  have i0 : (0 : Int) ≤ (d : Int) := by omega
  have i1 : (d : Int) ≤ 100000 := by omega
  go_enter Tryz.func42, Tryz.ntmps42
  go_wp2
  go_loopg [6] F (fun g x6 wx => ∃ (run : Nat) (st' : Ppa.St) (r' : Ppa.Bs), x6 = .int .i64 (run : Int) ∧ Co B b s p d F o g run st' r' wx ∧ Kept (Bel B b w wx))
  case atStart => exact ⟨0, st, r, rfl, ⟨h, hm, ht, he, hd, Nat.le_refl _, by omega⟩, B00⟩
  case round =>
    obtain ⟨run, st', r', rfl, V, B0⟩ := hrel
    obtain ⟨g, rfl⟩ : ∃ g, gk = g + 1 := by
      cases gk with
      | zero => have h2 := V.eq; unfold Ppa.contF at h2; cases h2
      | succ g => exact ⟨g, rfl⟩
    clear h hm ht he hd hlen
    have hl := V.ps.len
    have hgF := V.gF
    have hrn := V.rn
    have hdl := V.dl
    have hmm := V.m
    have hnt : st'.nodes.length ≤ 300000 ∧ st'.text.length ≤ 300000 := by unfold Ppa.meas at hmm; omega
    obtain ⟨hn1, hn2⟩ := hnt
    have r0 : (0 : Int) ≤ (run : Int) := by omega
    have r1 : (run : Int) ≤ 65536 := by omega
    cases r' with
    | nil =>
      have HP : Kept (Ppa.peek [] = -1) := ⟨rfl⟩
      by_cases hp : p < 0
      · have HX : Kept (o = .ok ([], Ppa.flush st' p)) := ⟨by have h2 := V.eq; rw [cont_end hp] at h2; injection h2 with h2; exact h2.symm⟩
        go_wp2_with (first | (go_at_call 67; refine (peek_v V.ps HP.out).mono ?_; rintro e w1 ⟨rfl, H1, hb1⟩; have B1 := Kept.mk (B0.out.trans hb1); clear hb1) | (go_at_call 68; refine (flush_s p H1 (by omega) (by omega)).mono ?_; rintro e w2 ⟨rfl, H2, hb2⟩; have B2 := Kept.mk (B1.out.trans hb2); clear hb2))
        go_end0
        exact ⟨B2.out, by rw [HX.out]; exact ⟨rfl, H2⟩⟩
      · have HX : Kept (o = .error []) := ⟨by have h2 := V.eq; rw [cont_lack hp] at h2; injection h2 with h2; exact h2.symm⟩
        go_wp2_with (first | (go_at_call 67; refine (peek_v V.ps HP.out).mono ?_; rintro e w1 ⟨rfl, H1, hb1⟩; have B1 := Kept.mk (B0.out.trans hb1); clear hb1) | (go_at_call 61; refine (no_s H1).mono ?_; rintro e w2 ⟨rfl, rfl⟩))
        exact ⟨rfl, B1.out, by rw [HX.out]; exact ⟨rfl, by simp⟩⟩
    | cons y u =>
      simp only [List.length_cons] at hl hrn hdl
      by_cases hbad : y = 62 ∧ 2 ≤ run
      · obtain ⟨rfl, hrun⟩ := hbad
        have HX : Kept (o = .error (62 :: u)) := ⟨by have h2 := V.eq; rw [cont_bad hrun] at h2; injection h2 with h2; exact h2.symm⟩
        have HP : Kept (Ppa.peek (62 :: u) = 62) := ⟨(peek_is 62 (by decide) _).2 rfl⟩
        have r2 : (2 : Int) ≤ (run : Int) := by omega
        clear hrun
        go_wp2_with (first | (go_at_call 67; refine (peek_v V.ps HP.out).mono ?_; rintro e w1 ⟨rfl, H1, hb1⟩; have B1 := Kept.mk (B0.out.trans hb1); clear hb1) | (go_at_call 61; refine (no_s H1).mono ?_; rintro e w2 ⟨rfl, rfl⟩))
        exact ⟨rfl, B1.out, by rw [HX.out]; exact ⟨rfl, H1.len⟩⟩
      · by_cases y60 : y = 60
        · subst y60
          have HP : Kept (Ppa.peek (60 :: u) = 60) := ⟨(peek_is 60 (by decide) _).2 rfl⟩
          have htu := Ppa.texts_low (by decide) V.tx
          have hmu := meas_small (List.suffix_cons 60 u) hmm
          by_cases hc : 0 ≤ p ∧ u.head? = some 47
          · obtain ⟨hp, hc⟩ := hc
            obtain ⟨t, rfl⟩ := head_cons hc
            have HX : Kept (o = .ok (t, Ppa.flush st' p)) := ⟨by have h2 := V.eq; rw [cont_close hp] at h2; injection h2 with h2; exact h2.symm⟩
            have hp' : ¬ p < 0 := by omega
            clear hc hbad
            go_wp2_with (first | (go_at_call 67; refine (peek_v V.ps HP.out).mono ?_; rintro e w1 ⟨rfl, H1, hb1⟩; have B1 := Kept.mk (B0.out.trans hb1); clear hb1; obtain ⟨k, hk, c1⟩ := H1.at_; have f1 := H1.unf 1; have k0 : (0 : Int) ≤ (k : Int) := (by omega); have k1 : (k : Int) ≤ 65536 := (by omega); have H2 := H1.put (H1.suf_tail) (z := (k : Int) + 1) (by simp at hk ⊢; omega); have B2 := Kept.mk (B1.out.setCell (p := ⟨b, 1, none⟩) H1.le (.int .i64 ((k : Int) + 1)))) | (go_at_call 58; refine (may_yes 47 (by decide) H2).mono ?_; rintro e w3 ⟨rfl, H3, hb3⟩; have B3 := Kept.mk (B2.out.trans hb3); clear hb3) | (go_at_call 68; refine (flush_s p H3 (by omega) (by omega)).mono ?_; rintro e w4 ⟨rfl, H4, hb4⟩; have B4 := Kept.mk (B3.out.trans hb4); clear hb4))
            go_end0
            exact ⟨B4.out, by rw [HX.out]; exact ⟨rfl, H4⟩⟩
          · have hmore := V.eq
            rw [cont_mark hc] at hmore
            cases hma : Ppa.markF s.size g p d u st' with
            | none => rw [hma] at hmore; cases hmore
            | some om =>
              rw [hma] at hmore
              have CM := Kept.mk (fun (wx : World) (hx : Ps B b s st' u wx) => hM g (by omega) p d st' u wx om hx hmu htu (by omega) (by omega) hma)
              cases om with
              | error r2 =>
                have HX : Kept (o = .error r2) := ⟨by injection hmore with h2; exact h2.symm⟩
                clear hmore hma hbad
                by_cases hp : p < 0
                · clear hc
                  go_wp2_with (first | (go_at_call 67; refine (peek_v V.ps HP.out).mono ?_; rintro e w1 ⟨rfl, H1, hb1⟩; have B1 := Kept.mk (B0.out.trans hb1); clear hb1; obtain ⟨k, hk, c1⟩ := H1.at_; have f1 := H1.unf 1; have k0 : (0 : Int) ≤ (k : Int) := (by omega); have k1 : (k : Int) ≤ 65536 := (by omega); have H2 := H1.put (H1.suf_tail) (z := (k : Int) + 1) (by simp at hk ⊢; omega); have B2 := Kept.mk (B1.out.setCell (p := ⟨b, 1, none⟩) H1.le (.int .i64 ((k : Int) + 1)))) | (go_at_call 69; refine (waysS_no (CM.out _ H2) rfl).mono ?_; rintro e w3 ⟨rfl, hl3, hb3⟩; have B3 := Kept.mk (B2.out.trans hb3); clear hb3))
                  exact ⟨rfl, B3.out, by rw [HX.out]; exact ⟨rfl, hl3⟩⟩
                · have h47 : Kept (u.head? ≠ some 47) := ⟨fun e => hc ⟨by omega, e⟩⟩
                  have hp' : 0 ≤ p := by omega
                  clear hc
                  go_wp2_with (first | (go_at_call 67; refine (peek_v V.ps HP.out).mono ?_; rintro e w1 ⟨rfl, H1, hb1⟩; have B1 := Kept.mk (B0.out.trans hb1); clear hb1; obtain ⟨k, hk, c1⟩ := H1.at_; have f1 := H1.unf 1; have k0 : (0 : Int) ≤ (k : Int) := (by omega); have k1 : (k : Int) ≤ 65536 := (by omega); have H2 := H1.put (H1.suf_tail) (z := (k : Int) + 1) (by simp at hk ⊢; omega); have B2 := Kept.mk (B1.out.setCell (p := ⟨b, 1, none⟩) H1.le (.int .i64 ((k : Int) + 1)))) | (go_at_call 58; refine (may_not 47 (by decide) h47.out H2).mono ?_; rintro e w3 ⟨rfl, H3, hb3⟩; have B3 := Kept.mk (B2.out.trans hb3); clear hb3) | (go_at_call 69; refine (waysS_no (CM.out _ H3) rfl).mono ?_; rintro e w4 ⟨rfl, hl4, hb4⟩; have B4 := Kept.mk (B3.out.trans hb4); clear hb4))
                  exact ⟨rfl, B4.out, by rw [HX.out]; exact ⟨rfl, hl4⟩⟩
              | ok q2 =>
                obtain ⟨r2, st2⟩ := q2
                obtain ⟨a1, a2, a3⟩ := (Ppa.kc_all s.size g).mark p d u st' r2 st2 hma
                have a4 := a1.length_le
                have HE := Kept.mk hmore
                have HT := Kept.mk (a3 htu)
                have HM2 : Kept (Ppa.meas st2 r2 ≤ 300000) := ⟨by omega⟩
                clear hmore hma hbad a1 a2 a3
                by_cases hp : p < 0
                · clear hc
                  go_wp2_with (first | (go_at_call 67; refine (peek_v V.ps HP.out).mono ?_; rintro e w1 ⟨rfl, H1, hb1⟩; have B1 := Kept.mk (B0.out.trans hb1); clear hb1; obtain ⟨k, hk, c1⟩ := H1.at_; have f1 := H1.unf 1; have k0 : (0 : Int) ≤ (k : Int) := (by omega); have k1 : (k : Int) ≤ 65536 := (by omega); have H2 := H1.put (H1.suf_tail) (z := (k : Int) + 1) (by simp at hk ⊢; omega); have B2 := Kept.mk (B1.out.setCell (p := ⟨b, 1, none⟩) H1.le (.int .i64 ((k : Int) + 1)))) | (go_at_call 69; refine (waysS_ok (CM.out _ H2) rfl).mono ?_; rintro e w3 ⟨rfl, H3, hb3⟩; have B3 := Kept.mk (B2.out.trans hb3); clear hb3))
                  go_roundg g
                  case measure => omega
                  case rel => exact ⟨0, st2, r2, rfl, ⟨H3, HM2.out, HT.out, HE.out, by omega, by omega, by omega⟩, B3⟩
                · have h47 : Kept (u.head? ≠ some 47) := ⟨fun e => hc ⟨by omega, e⟩⟩
                  have hp' : 0 ≤ p := by omega
                  clear hc
                  go_wp2_with (first | (go_at_call 67; refine (peek_v V.ps HP.out).mono ?_; rintro e w1 ⟨rfl, H1, hb1⟩; have B1 := Kept.mk (B0.out.trans hb1); clear hb1; obtain ⟨k, hk, c1⟩ := H1.at_; have f1 := H1.unf 1; have k0 : (0 : Int) ≤ (k : Int) := (by omega); have k1 : (k : Int) ≤ 65536 := (by omega); have H2 := H1.put (H1.suf_tail) (z := (k : Int) + 1) (by simp at hk ⊢; omega); have B2 := Kept.mk (B1.out.setCell (p := ⟨b, 1, none⟩) H1.le (.int .i64 ((k : Int) + 1)))) | (go_at_call 58; refine (may_not 47 (by decide) h47.out H2).mono ?_; rintro e w3 ⟨rfl, H3, hb3⟩; have B3 := Kept.mk (B2.out.trans hb3); clear hb3) | (go_at_call 69; refine (waysS_ok (CM.out _ H3) rfl).mono ?_; rintro e w4 ⟨rfl, H4, hb4⟩; have B4 := Kept.mk (B3.out.trans hb4); clear hb4))
                  go_roundg g
                  case measure => omega
                  case rel => exact ⟨0, st2, r2, rfl, ⟨H4, HM2.out, HT.out, HE.out, by omega, by omega, by omega⟩, B4⟩
        · by_cases y38 : y = 38
          · subst y38
            have HP : Kept (Ppa.peek (38 :: u) = 38) := ⟨(peek_is 38 (by decide) _).2 rfl⟩
            have htu := Ppa.texts_low (by decide) V.tx
            have hmore := V.eq
            rw [cont_ref] at hmore
            clear hbad
            cases hre : Ppa.refM u with
            | error r2 =>
              rw [hre] at hmore
              have HX : Kept (o = .error r2) := ⟨by injection hmore with h2; exact h2.symm⟩
              have KR := Kept.mk hre
              clear hre hmore
              go_wp2_with (go_at_call 67; refine (peek_v V.ps HP.out).mono ?_; rintro e w1 ⟨rfl, H1, hb1⟩; have B1 := Kept.mk (B0.out.trans hb1); clear hb1; obtain ⟨k, hk, c1⟩ := H1.at_; have f1 := H1.unf 1; have k0 : (0 : Int) ≤ (k : Int) := (by omega); have k1 : (k : Int) ≤ 65536 := (by omega); have H2 := H1.put (H1.suf_tail) (z := (k : Int) + 1) (by simp at hk ⊢; omega); have B2 := Kept.mk (B1.out.setCell (p := ⟨b, 1, none⟩) H1.le (.int .i64 ((k : Int) + 1))))
              have H3 := H2.below (Below.refl _ _).drew
              have B3 := Kept.mk B2.out.drew
              go_region_dies
              all_goals
                go_at_call 71
                refine (ref_s_no H3 KR.out).mono ?_
                rintro e w4 ⟨rfl, hl4, hb4⟩
                exact ⟨rfl, B3.out.trans hb4, by rw [HX.out]; exact ⟨rfl, hl4⟩⟩
            | ok q2 =>
              obtain ⟨n, r2⟩ := q2
              rw [hre] at hmore
              have a1 := (Ppa.refM_suf hre).length_le
              have a2 := (refM_ok hre).2
              have a3 := Ppa.encode_le n
              have HE := Kept.mk hmore
              have HT := Kept.mk (refM_texts htu hre)
              have HM2 : Kept (Ppa.meas { st' with text := st'.text ++ Lib.encodeRune n } r2 ≤ 300000) := ⟨by unfold Ppa.meas at hmm ⊢; simp only [List.length_append, List.length_cons] at hmm ⊢; omega⟩
              have KR := Kept.mk hre
              clear hre hmore a3
              go_wp2_with (go_at_call 67; refine (peek_v V.ps HP.out).mono ?_; rintro e w1 ⟨rfl, H1, hb1⟩; have B1 := Kept.mk (B0.out.trans hb1); clear hb1; obtain ⟨k, hk, c1⟩ := H1.at_; have f1 := H1.unf 1; have k0 : (0 : Int) ≤ (k : Int) := (by omega); have k1 : (k : Int) ≤ 65536 := (by omega); have H2 := H1.put (H1.suf_tail) (z := (k : Int) + 1) (by simp at hk ⊢; omega); have B2 := Kept.mk (B1.out.setCell (p := ⟨b, 1, none⟩) H1.le (.int .i64 ((k : Int) + 1))))
              have H3 := H2.below (Below.refl _ _).drew
              have B3 := Kept.mk B2.out.drew
              go_region_law (first
                | (go_simp; go_at_call 71; refine (ref_s_ok H3 KR.out).mono ?_; rintro e w4 ⟨rfl, H4, hb4⟩; have B4 := Kept.mk (B3.out.trans hb4); clear hb4)
                | (go_simp; go_at_call 70; refine (rune_t (n : Int) (by omega) (by omega) H4 (by omega)).mono ?_; rintro e w5 ⟨⟨n5, rfl⟩, H5, hb5⟩; have B5 := Kept.mk (B4.out.trans hb5); clear hb5))
              all_goals
                go_wp2
                go_roundg g
                case measure => omega
                case rel => exact ⟨0, _, r2, rfl, ⟨H5, HM2.out, HT.out, HE.out, by omega, by omega, by omega⟩, B5⟩
          · by_cases y13 : y = 13
            · subst y13
              have HP : Kept (Ppa.peek (13 :: u) = 13) := ⟨(peek_is 13 (by decide) _).2 rfl⟩
              have htu := Ppa.texts_low (by decide) V.tx
              have hmore := V.eq
              rw [cont_cr] at hmore
              have a1 := (Ppa.nlL_suf u).length_le
              have HE := Kept.mk hmore
              have HT := Kept.mk (nl_texts htu)
              have HM2 : Kept (Ppa.meas { st' with text := st'.text ++ [10] } (Ppa.nlL u) ≤ 300000) := ⟨by unfold Ppa.meas at hmm ⊢; simp only [List.length_append, List.length_cons, List.length_nil] at hmm ⊢; omega⟩
              clear hbad hmore
              go_wp2_with (first | (go_at_call 67; refine (peek_v V.ps HP.out).mono ?_; rintro e w1 ⟨rfl, H1, hb1⟩; have B1 := Kept.mk (B0.out.trans hb1); clear hb1; obtain ⟨k, hk, c1⟩ := H1.at_; have f1 := H1.unf 1; have k0 : (0 : Int) ≤ (k : Int) := (by omega); have k1 : (k : Int) ≤ 65536 := (by omega); have H2 := H1.put (H1.suf_tail) (z := (k : Int) + 1) (by simp at hk ⊢; omega); have B2 := Kept.mk (B1.out.setCell (p := ⟨b, 1, none⟩) H1.le (.int .i64 ((k : Int) + 1)))) | (go_at_call 58; refine (may_nl H2).mono ?_; rintro e w3 ⟨⟨x3, rfl⟩, H3, hb3⟩; have B3 := Kept.mk (B2.out.trans hb3); clear hb3) | (go_at_call 44; refine (byte_t 10 H3 (by omega)).mono ?_; rintro e w4 ⟨rfl, H4, hb4⟩; have B4 := Kept.mk (B3.out.trans hb4); clear hb4))
              go_roundg g
              case measure => omega
              case rel => exact ⟨0, _, _, rfl, ⟨H4, HM2.out, HT.out, HE.out, by omega, by omega, by omega⟩, B4⟩
            · obtain ⟨g', hg', hE⟩ := cont_copy V.tx hbad y60 y38 y13 V.eq
              have hne : (y :: u) ≠ [] := by simp
              have htx := (Ppa.texts_step hne V.tx).2.2
              have hd1 := Lib.decodeL_width (y :: u)
              have hd2 := Lib.decodeL_le (y :: u) hne
              have hcl : (Lib.encodeRune (Ppa.peek (y :: u))).length = (Lib.decodeL (y :: u)).2 := by rw [peek_has hne, Ppa.char_bytes hne V.tx, List.length_take]; omega
              have hsl : (Ppa.skip (y :: u)).length = (y :: u).length - (Lib.decodeL (y :: u)).2 := by unfold Ppa.skip; exact List.length_drop
              have hlo := peek_lo (y :: u)
              have pm1 : ¬ Ppa.peek (y :: u) = -1 := by rw [peek_has hne]; omega
              simp only [List.length_cons] at hsl hd2
              have HM : Kept (Ppa.meas { st' with text := st'.text ++ Lib.encodeRune (Ppa.peek (y :: u)) } (Ppa.skip (y :: u)) ≤ 300000) := ⟨by unfold Ppa.meas at hmm ⊢; simp only [List.length_append, List.length_cons] at hmm ⊢; omega⟩
              have HT := Kept.mk htx
              have HE := Kept.mk hE
              have p60 : ¬ Ppa.peek (y :: u) = 60 := fun e => y60 (by have h2 := (peek_is 60 (by decide) (y :: u)).1 e; injection h2)
              have p38 : ¬ Ppa.peek (y :: u) = 38 := fun e => y38 (by have h2 := (peek_is 38 (by decide) (y :: u)).1 e; injection h2)
              have p13 : ¬ Ppa.peek (y :: u) = 13 := fun e => y13 (by have h2 := (peek_is 13 (by decide) (y :: u)).1 e; injection h2)
              generalize hS : Ppa.skip (y :: u) = S at hsl HM HT HE
              have HSK := Kept.mk hS
              generalize (Lib.decodeL (y :: u)).2 = D at hd1 hd2 hcl hsl
              clear hE htx hS hcl
              by_cases y93 : y = 93
              · subst y93
                have hp : Ppa.peek (93 :: u) = 93 := (peek_is 93 (by decide) _).2 rfl
                have HP := Kept.mk hp
                rw [hp, if_pos rfl] at HE
                rw [hp] at HM
                clear p60 p38 p13 pm1 hlo hp hbad y60 y38 y13
                have H0s := Kept.mk (V.ps)
                go_wp2_with (go_at_call 67; refine (peek_v V.ps HP.out).mono ?_; rintro e w1 ⟨rfl, H1, hb1⟩; have B1 := Kept.mk (B0.out.trans hb1); clear hb1)
                have H2 : Ps B b s st' (93 :: u) w1.drew := H1.below (Below.refl _ _).drew
                have B2 : Kept (Bel B b w w1.drew) := ⟨B1.out.drew⟩
                go_region_law (first
                  | (go_simp; go_at_call 72; refine (next_s H2 (by simp)).mono ?_; rintro e w3 ⟨rfl, H3, hb3⟩; rw [HP.out]; rw [HSK.out] at H3; have B3 := Kept.mk (B2.out.trans hb3); clear hb3)
                  | (go_simp; go_at_call 70; refine (rune_t 93 (by omega) (by omega) H3 (by omega)).mono ?_; rintro e w4 ⟨⟨n4, rfl⟩, H4, hb4⟩; have B4 := Kept.mk (B3.out.trans hb4); clear hb4))
                all_goals
                  go_wp2
                  go_roundg g'
                  case measure => omega
                  case rel => exact ⟨run + 1, _, S, by go_num, ⟨H4, HM.out, HT.out, HE.out, by omega, by omega, by omega⟩, B4⟩
              · rw [if_neg y93] at HE
                have p93 : ¬ Ppa.peek (y :: u) = 93 := fun e => y93 (by have h2 := (peek_is 93 (by decide) (y :: u)).1 e; injection h2)
                by_cases y62 : y = 62
                · subst y62
                  have hp : Ppa.peek (62 :: u) = 62 := (peek_is 62 (by decide) _).2 rfl
                  have HP := Kept.mk hp
                  have r2 : ¬ (2 : Int) ≤ (run : Int) := fun e => hbad ⟨rfl, by omega⟩
                  rw [hp] at HM HE
                  clear p60 p38 p13 p93 pm1 hlo hp hbad y60 y38 y13 y93
                  have H0s := Kept.mk (V.ps)
                  go_wp2_with (go_at_call 67; refine (peek_v V.ps HP.out).mono ?_; rintro e w1 ⟨rfl, H1, hb1⟩; have B1 := Kept.mk (B0.out.trans hb1); clear hb1)
                  have H2 : Ps B b s st' (62 :: u) w1.drew := H1.below (Below.refl _ _).drew
                  have B2 : Kept (Bel B b w w1.drew) := ⟨B1.out.drew⟩
                  go_region_law (first
                    | (go_simp; go_at_call 72; refine (next_s H2 (by simp)).mono ?_; rintro e w3 ⟨rfl, H3, hb3⟩; rw [HP.out]; rw [HSK.out] at H3; have B3 := Kept.mk (B2.out.trans hb3); clear hb3)
                    | (go_simp; go_at_call 70; refine (rune_t 62 (by omega) (by omega) H3 (by omega)).mono ?_; rintro e w4 ⟨⟨n4, rfl⟩, H4, hb4⟩; have B4 := Kept.mk (B3.out.trans hb4); clear hb4))
                  all_goals
                    go_wp2
                    go_roundg g'
                    case measure => omega
                    case rel => exact ⟨0, _, S, by go_num, ⟨H4, HM.out, HT.out, HE.out, by omega, by omega, by omega⟩, B4⟩
                · have p62 : ¬ Ppa.peek (y :: u) = 62 := fun e => y62 (by have h2 := (peek_is 62 (by decide) (y :: u)).1 e; injection h2)
                  obtain ⟨hlo, hhi⟩ := hlo
                  generalize hPP : Ppa.peek (y :: u) = X at *
                  have HP := Kept.mk hPP
                  have q60 : (X == 60) = false := by simpa using p60
                  have q38 : (X == 38) = false := by simpa using p38
                  have q13 : (X == 13) = false := by simpa using p13
                  have q62 : (X == 62) = false := by simpa using p62
                  have qm : (X == -1) = false := by simpa using pm1
                  have q93 : (X != 93) = true := by simpa using p93
                  clear hPP hbad y60 y38 y13 y93 y62
                  have H0s := Kept.mk (V.ps)
                  go_wp2_with (go_at_call 67; refine (peek_v V.ps HP.out).mono ?_; rintro e w1 ⟨rfl, H1, hb1⟩; have B1 := Kept.mk (B0.out.trans hb1); clear hb1)
                  have H2 : Ps B b s st' (y :: u) w1.drew := H1.below (Below.refl _ _).drew
                  have B2 : Kept (Bel B b w w1.drew) := ⟨B1.out.drew⟩
                  go_region_law (first
                    | (go_simp; go_at_call 72; refine (next_s H2 (by simp)).mono ?_; rintro e w3 ⟨rfl, H3, hb3⟩; rw [HP.out]; rw [HSK.out] at H3; have B3 := Kept.mk (B2.out.trans hb3); clear hb3)
                    | (go_simp; go_at_call 70; refine (rune_t X (by omega) (by omega) H3 (by omega)).mono ?_; rintro e w4 ⟨⟨n4, rfl⟩, H4, hb4⟩; have B4 := Kept.mk (B3.out.trans hb4); clear hb4))
                  all_goals
                    go_wp2
                    go_roundg g'
                    case measure => omega
                    case rel => exact ⟨0, _, S, by go_num, ⟨H4, HM.out, HT.out, HE.out, by omega, by omega, by omega⟩, B4⟩
end Go.Proofs.YtemfmidhekdekaaGreatDoor.Wps
