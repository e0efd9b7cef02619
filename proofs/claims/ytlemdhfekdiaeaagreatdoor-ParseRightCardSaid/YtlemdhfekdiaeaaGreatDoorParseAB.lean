/- The program's parser: a declaration. -/
import Derived.Test.YtlemdhfekdiaeaaGreatDoorParseAA
namespace Go.Proofs.YtlemdhfekdiaeaaGreatDoor.Wps
open Go Go.RowKit Go.Proofs.YtlemdhfekdiaeaaGreatDoor.Kb Go.Proofs.YtlemdhfekdiaeaaGreatDoor.Wch Go.Proofs.YtlemdhfekdiaeaaGreatDoor.Emk

set_option maxRecDepth 100000 in
set_option maxHeartbeats 2000000 in
theorem decl_1 {B b : Nat} {s : ByteArray} {st : Ppa.St} {r r1 : Ppa.Bs} {w : World} (h : Ps B b s st r w) (h1 : Ppa.mustL [118, 101, 114, 115, 105, 111, 110] (Ppa.blanksL r) = .error r1) :
    Calls Tryz.prog 38 #[.pointer (some ⟨b, 0, none⟩)] w fun e w' => Gone (s.size - r1.length) e ∧ r1.length ≤ s.size ∧ Bel B b w w' := by
  have B0 : Kept (Bel B b w w) := ⟨Bel.refl _ _ _⟩
  have K1 := Kept.mk h1
  clear h1
  go_enter Tryz.func38, Tryz.ntmps38
  go_wp2_with (first | (go_at_call 39; refine (blanks_s h).mono ?_; rintro e w1 ⟨rfl, H1, hb1⟩; have B1 := Kept.mk (B0.out.trans hb1); clear hb1) | (go_at_call 40; refine (must_s_no [118, 101, 114, 115, 105, 111, 110] (by decide) H1 K1.out).mono ?_; rintro e w2 ⟨rfl, hl2, hb2⟩; have B2 := Kept.mk (B1.out.trans hb2); clear hb2))
  exact ⟨rfl, rfl, hl2, B2.out⟩
set_option maxRecDepth 100000 in
set_option maxHeartbeats 2000000 in
theorem decl_2 {B b : Nat} {s : ByteArray} {st : Ppa.St} {r r1 r2 : Ppa.Bs} {w : World} (h : Ps B b s st r w) (h1 : Ppa.mustL [118, 101, 114, 115, 105, 111, 110] (Ppa.blanksL r) = .ok r1) (h2 : Ppa.quotM [49, 46, 48] r1 = .error r2) :
    Calls Tryz.prog 38 #[.pointer (some ⟨b, 0, none⟩)] w fun e w' => Gone (s.size - r2.length) e ∧ r2.length ≤ s.size ∧ Bel B b w w' := by
  have B0 : Kept (Bel B b w w) := ⟨Bel.refl _ _ _⟩
  have K1 := Kept.mk h1
  have K2 := Kept.mk h2
  clear h1 h2
  go_enter Tryz.func38, Tryz.ntmps38
  go_wp2_with (first | (go_at_call 39; refine (blanks_s h).mono ?_; rintro e w1 ⟨rfl, H1, hb1⟩; have B1 := Kept.mk (B0.out.trans hb1); clear hb1) | (go_at_call 40; refine (must_s_ok [118, 101, 114, 115, 105, 111, 110] (by decide) H1 K1.out).mono ?_; rintro e w2 ⟨rfl, H2, hb2⟩; have B2 := Kept.mk (B1.out.trans hb2); clear hb2) | (go_at_call 75; refine (quot_s_no [49, 46, 48] (by decide) H2 K2.out).mono ?_; rintro e w3 ⟨rfl, hl3, hb3⟩; have B3 := Kept.mk (B2.out.trans hb3); clear hb3))
  exact ⟨rfl, rfl, hl3, B3.out⟩
set_option maxRecDepth 100000 in
set_option maxHeartbeats 2000000 in
theorem decl_3 {B b : Nat} {s : ByteArray} {st : Ppa.St} {r r1 r2 r5 : Ppa.Bs} {w : World} (h : Ps B b s st r w) (h1 : Ppa.mustL [118, 101, 114, 115, 105, 111, 110] (Ppa.blanksL r) = .ok r1) (h2 : Ppa.quotM [49, 46, 48] r1 = .ok r2) (hb : blankH r2 = false) (h5 : Ppa.mustL [63, 62] r2 = .ok r5) :
    Calls Tryz.prog 38 #[.pointer (some ⟨b, 0, none⟩)] w fun e w' => e = .returned (.tuple #[]) ∧ Ps B b s st r5 w' ∧ Bel B b w w' := by
  have B0 : Kept (Bel B b w w) := ⟨Bel.refl _ _ _⟩
  have K1 := Kept.mk h1
  have K2 := Kept.mk h2
  have KB := Kept.mk hb
  have K5 := Kept.mk h5
  clear h1 h2 hb h5
  go_enter Tryz.func38, Tryz.ntmps38
  have TG1 : Kept True := ⟨trivial⟩
  go_wp2_with (first | (go_at_call 39; refine (blanks_s h).mono ?_; rintro e w1 ⟨rfl, H1, hb1⟩; have B1 := Kept.mk (B0.out.trans hb1); clear hb1) | (go_at_call 40; clear TG1; refine (must_s_ok [118, 101, 114, 115, 105, 111, 110] (by decide) H1 K1.out).mono ?_; rintro e w2 ⟨rfl, H2, hb2⟩; have B2 := Kept.mk (B1.out.trans hb2); clear hb2) | (go_at_call 75; refine (quot_s_ok [49, 46, 48] (by decide) H2 K2.out).mono ?_; rintro e w3 ⟨rfl, H3, hb3⟩; have B3 := Kept.mk (B2.out.trans hb3); clear hb3) | (go_at_call 76; refine (blank_t H3 KB.out).mono ?_; rintro e w4 ⟨rfl, H4, hb4⟩; have B4 := Kept.mk (B3.out.trans hb4); clear hb4) | (go_at_call 40; refine (must_s_ok [63, 62] (by decide) H4 K5.out).mono ?_; rintro e w5 ⟨rfl, H5, hb5⟩; have B5 := Kept.mk (B4.out.trans hb5); clear hb5))
  go_end0
  exact ⟨rfl, H5, B5.out⟩
set_option maxRecDepth 100000 in
set_option maxHeartbeats 2000000 in
theorem decl_4 {B b : Nat} {s : ByteArray} {st : Ppa.St} {r r1 r2 r5 : Ppa.Bs} {w : World} (h : Ps B b s st r w) (h1 : Ppa.mustL [118, 101, 114, 115, 105, 111, 110] (Ppa.blanksL r) = .ok r1) (h2 : Ppa.quotM [49, 46, 48] r1 = .ok r2) (hb : blankH r2 = false) (h5 : Ppa.mustL [63, 62] r2 = .error r5) :
    Calls Tryz.prog 38 #[.pointer (some ⟨b, 0, none⟩)] w fun e w' => Gone (s.size - r5.length) e ∧ r5.length ≤ s.size ∧ Bel B b w w' := by
  have B0 : Kept (Bel B b w w) := ⟨Bel.refl _ _ _⟩
  have K1 := Kept.mk h1
  have K2 := Kept.mk h2
  have KB := Kept.mk hb
  have K5 := Kept.mk h5
  clear h1 h2 hb h5
  go_enter Tryz.func38, Tryz.ntmps38
  have TG1 : Kept True := ⟨trivial⟩
  go_wp2_with (first | (go_at_call 39; refine (blanks_s h).mono ?_; rintro e w1 ⟨rfl, H1, hb1⟩; have B1 := Kept.mk (B0.out.trans hb1); clear hb1) | (go_at_call 40; clear TG1; refine (must_s_ok [118, 101, 114, 115, 105, 111, 110] (by decide) H1 K1.out).mono ?_; rintro e w2 ⟨rfl, H2, hb2⟩; have B2 := Kept.mk (B1.out.trans hb2); clear hb2) | (go_at_call 75; refine (quot_s_ok [49, 46, 48] (by decide) H2 K2.out).mono ?_; rintro e w3 ⟨rfl, H3, hb3⟩; have B3 := Kept.mk (B2.out.trans hb3); clear hb3) | (go_at_call 76; refine (blank_t H3 KB.out).mono ?_; rintro e w4 ⟨rfl, H4, hb4⟩; have B4 := Kept.mk (B3.out.trans hb4); clear hb4) | (go_at_call 40; refine (must_s_no [63, 62] (by decide) H4 K5.out).mono ?_; rintro e w5 ⟨rfl, hl5, hb5⟩; have B5 := Kept.mk (B4.out.trans hb5); clear hb5))
  exact ⟨rfl, rfl, hl5, B5.out⟩
set_option maxRecDepth 100000 in
set_option maxHeartbeats 2000000 in
theorem decl_5 {B b : Nat} {s : ByteArray} {st : Ppa.St} {r r1 r2 r5 : Ppa.Bs} {w : World} (h : Ps B b s st r w) (h1 : Ppa.mustL [118, 101, 114, 115, 105, 111, 110] (Ppa.blanksL r) = .ok r1) (h2 : Ppa.quotM [49, 46, 48] r1 = .ok r2) (hb : blankH r2 = true) (hq : ¬ Ppa.peek (Ppa.blanksL r2) = 101) (h5 : Ppa.mustL [63, 62] (Ppa.blanksL r2) = .ok r5) :
    Calls Tryz.prog 38 #[.pointer (some ⟨b, 0, none⟩)] w fun e w' => e = .returned (.tuple #[]) ∧ Ps B b s st r5 w' ∧ Bel B b w w' := by
  have B0 : Kept (Bel B b w w) := ⟨Bel.refl _ _ _⟩
  have K1 := Kept.mk h1
  have K2 := Kept.mk h2
  have KB := Kept.mk hb
  have K5 := Kept.mk h5
  clear h1 h2 hb h5
  go_enter Tryz.func38, Tryz.ntmps38
  have TG0 : Kept True := ⟨trivial⟩
  have TG1 : Kept True := ⟨trivial⟩
  go_wp2_with (first | (go_at_call 39; clear TG0; refine (blanks_s h).mono ?_; rintro e w1 ⟨rfl, H1, hb1⟩; have B1 := Kept.mk (B0.out.trans hb1); clear hb1) | (go_at_call 40; clear TG1; refine (must_s_ok [118, 101, 114, 115, 105, 111, 110] (by decide) H1 K1.out).mono ?_; rintro e w2 ⟨rfl, H2, hb2⟩; have B2 := Kept.mk (B1.out.trans hb2); clear hb2) | (go_at_call 75; refine (quot_s_ok [49, 46, 48] (by decide) H2 K2.out).mono ?_; rintro e w3 ⟨rfl, H3, hb3⟩; have B3 := Kept.mk (B2.out.trans hb3); clear hb3) | (go_at_call 76; refine (blank_t H3 KB.out).mono ?_; rintro e w4 ⟨rfl, H4, hb4⟩; have B4 := Kept.mk (B3.out.trans hb4); clear hb4) | (go_at_call 39; refine (blanks_s H4).mono ?_; rintro e w5 ⟨rfl, H5, hb5⟩; have B5 := Kept.mk (B4.out.trans hb5); clear hb5) | (go_at_call 77; refine (peek_t H5).mono ?_; rintro e w6 ⟨rfl, H6, hb6⟩; have B6 := Kept.mk (B5.out.trans hb6); clear hb6) | (go_at_call 40; refine (must_s_ok [63, 62] (by decide) H6 K5.out).mono ?_; rintro e w7 ⟨rfl, H7, hb7⟩; have B7 := Kept.mk (B6.out.trans hb7); clear hb7))
  go_end0
  exact ⟨rfl, H7, B7.out⟩
set_option maxRecDepth 100000 in
set_option maxHeartbeats 2000000 in
theorem decl_6 {B b : Nat} {s : ByteArray} {st : Ppa.St} {r r1 r2 r5 : Ppa.Bs} {w : World} (h : Ps B b s st r w) (h1 : Ppa.mustL [118, 101, 114, 115, 105, 111, 110] (Ppa.blanksL r) = .ok r1) (h2 : Ppa.quotM [49, 46, 48] r1 = .ok r2) (hb : blankH r2 = true) (hq : ¬ Ppa.peek (Ppa.blanksL r2) = 101) (h5 : Ppa.mustL [63, 62] (Ppa.blanksL r2) = .error r5) :
    Calls Tryz.prog 38 #[.pointer (some ⟨b, 0, none⟩)] w fun e w' => Gone (s.size - r5.length) e ∧ r5.length ≤ s.size ∧ Bel B b w w' := by
  have B0 : Kept (Bel B b w w) := ⟨Bel.refl _ _ _⟩
  have K1 := Kept.mk h1
  have K2 := Kept.mk h2
  have KB := Kept.mk hb
  have K5 := Kept.mk h5
  clear h1 h2 hb h5
  go_enter Tryz.func38, Tryz.ntmps38
  have TG0 : Kept True := ⟨trivial⟩
  have TG1 : Kept True := ⟨trivial⟩
  go_wp2_with (first | (go_at_call 39; clear TG0; refine (blanks_s h).mono ?_; rintro e w1 ⟨rfl, H1, hb1⟩; have B1 := Kept.mk (B0.out.trans hb1); clear hb1) | (go_at_call 40; clear TG1; refine (must_s_ok [118, 101, 114, 115, 105, 111, 110] (by decide) H1 K1.out).mono ?_; rintro e w2 ⟨rfl, H2, hb2⟩; have B2 := Kept.mk (B1.out.trans hb2); clear hb2) | (go_at_call 75; refine (quot_s_ok [49, 46, 48] (by decide) H2 K2.out).mono ?_; rintro e w3 ⟨rfl, H3, hb3⟩; have B3 := Kept.mk (B2.out.trans hb3); clear hb3) | (go_at_call 76; refine (blank_t H3 KB.out).mono ?_; rintro e w4 ⟨rfl, H4, hb4⟩; have B4 := Kept.mk (B3.out.trans hb4); clear hb4) | (go_at_call 39; refine (blanks_s H4).mono ?_; rintro e w5 ⟨rfl, H5, hb5⟩; have B5 := Kept.mk (B4.out.trans hb5); clear hb5) | (go_at_call 77; refine (peek_t H5).mono ?_; rintro e w6 ⟨rfl, H6, hb6⟩; have B6 := Kept.mk (B5.out.trans hb6); clear hb6) | (go_at_call 40; refine (must_s_no [63, 62] (by decide) H6 K5.out).mono ?_; rintro e w7 ⟨rfl, hl7, hb7⟩; have B7 := Kept.mk (B6.out.trans hb7); clear hb7))
  exact ⟨rfl, rfl, hl7, B7.out⟩
set_option maxRecDepth 100000 in
set_option maxHeartbeats 2000000 in
theorem decl_7 {B b : Nat} {s : ByteArray} {st : Ppa.St} {r r1 r2 r3 : Ppa.Bs} {w : World} (h : Ps B b s st r w) (h1 : Ppa.mustL [118, 101, 114, 115, 105, 111, 110] (Ppa.blanksL r) = .ok r1) (h2 : Ppa.quotM [49, 46, 48] r1 = .ok r2) (hb : blankH r2 = true) (hp : Ppa.peek (Ppa.blanksL r2) = 101) (h3 : Ppa.mustL [101, 110, 99, 111, 100, 105, 110, 103] (Ppa.blanksL r2) = .error r3) :
    Calls Tryz.prog 38 #[.pointer (some ⟨b, 0, none⟩)] w fun e w' => Gone (s.size - r3.length) e ∧ r3.length ≤ s.size ∧ Bel B b w w' := by
  have B0 : Kept (Bel B b w w) := ⟨Bel.refl _ _ _⟩
  have K1 := Kept.mk h1
  have K2 := Kept.mk h2
  have KB := Kept.mk hb
  have KP := Kept.mk hp
  have K3 := Kept.mk h3
  clear h1 h2 hb hp h3
  go_enter Tryz.func38, Tryz.ntmps38
  have TG0 : Kept True := ⟨trivial⟩
  have TG1 : Kept True := ⟨trivial⟩
  go_wp2_with (first | (go_at_call 39; clear TG0; refine (blanks_s h).mono ?_; rintro e w1 ⟨rfl, H1, hb1⟩; have B1 := Kept.mk (B0.out.trans hb1); clear hb1) | (go_at_call 40; clear TG1; refine (must_s_ok [118, 101, 114, 115, 105, 111, 110] (by decide) H1 K1.out).mono ?_; rintro e w2 ⟨rfl, H2, hb2⟩; have B2 := Kept.mk (B1.out.trans hb2); clear hb2) | (go_at_call 75; refine (quot_s_ok [49, 46, 48] (by decide) H2 K2.out).mono ?_; rintro e w3 ⟨rfl, H3, hb3⟩; have B3 := Kept.mk (B2.out.trans hb3); clear hb3) | (go_at_call 76; refine (blank_t H3 KB.out).mono ?_; rintro e w4 ⟨rfl, H4, hb4⟩; have B4 := Kept.mk (B3.out.trans hb4); clear hb4) | (go_at_call 39; refine (blanks_s H4).mono ?_; rintro e w5 ⟨rfl, H5, hb5⟩; have B5 := Kept.mk (B4.out.trans hb5); clear hb5) | (go_at_call 77; refine (peek_v H5 KP.out).mono ?_; rintro e w6 ⟨rfl, H6, hb6⟩; have B6 := Kept.mk (B5.out.trans hb6); clear hb6) | (go_at_call 40; refine (must_s_no [101, 110, 99, 111, 100, 105, 110, 103] (by decide) H6 K3.out).mono ?_; rintro e w7 ⟨rfl, hl7, hb7⟩; have B7 := Kept.mk (B6.out.trans hb7); clear hb7))
  exact ⟨rfl, rfl, hl7, B7.out⟩
set_option maxRecDepth 100000 in
set_option maxHeartbeats 2000000 in
theorem decl_8 {B b : Nat} {s : ByteArray} {st : Ppa.St} {r r1 r2 r3 r4 : Ppa.Bs} {w : World} (h : Ps B b s st r w) (h1 : Ppa.mustL [118, 101, 114, 115, 105, 111, 110] (Ppa.blanksL r) = .ok r1) (h2 : Ppa.quotM [49, 46, 48] r1 = .ok r2) (hb : blankH r2 = true) (hp : Ppa.peek (Ppa.blanksL r2) = 101) (h3 : Ppa.mustL [101, 110, 99, 111, 100, 105, 110, 103] (Ppa.blanksL r2) = .ok r3) (h4 : Ppa.quotM [117, 116, 102, 45, 56] r3 = .error r4) :
    Calls Tryz.prog 38 #[.pointer (some ⟨b, 0, none⟩)] w fun e w' => Gone (s.size - r4.length) e ∧ r4.length ≤ s.size ∧ Bel B b w w' := by
  have B0 : Kept (Bel B b w w) := ⟨Bel.refl _ _ _⟩
  have K1 := Kept.mk h1
  have K2 := Kept.mk h2
  have KB := Kept.mk hb
  have KP := Kept.mk hp
  have K3 := Kept.mk h3
  have K4 := Kept.mk h4
  clear h1 h2 hb hp h3 h4
  go_enter Tryz.func38, Tryz.ntmps38
  have TG0 : Kept True := ⟨trivial⟩
  have TG1 : Kept True := ⟨trivial⟩
  have TG2 : Kept True := ⟨trivial⟩
  go_wp2_with (first | (go_at_call 39; clear TG0; refine (blanks_s h).mono ?_; rintro e w1 ⟨rfl, H1, hb1⟩; have B1 := Kept.mk (B0.out.trans hb1); clear hb1) | (go_at_call 40; clear TG1; refine (must_s_ok [118, 101, 114, 115, 105, 111, 110] (by decide) H1 K1.out).mono ?_; rintro e w2 ⟨rfl, H2, hb2⟩; have B2 := Kept.mk (B1.out.trans hb2); clear hb2) | (go_at_call 75; clear TG2; refine (quot_s_ok [49, 46, 48] (by decide) H2 K2.out).mono ?_; rintro e w3 ⟨rfl, H3, hb3⟩; have B3 := Kept.mk (B2.out.trans hb3); clear hb3) | (go_at_call 76; refine (blank_t H3 KB.out).mono ?_; rintro e w4 ⟨rfl, H4, hb4⟩; have B4 := Kept.mk (B3.out.trans hb4); clear hb4) | (go_at_call 39; refine (blanks_s H4).mono ?_; rintro e w5 ⟨rfl, H5, hb5⟩; have B5 := Kept.mk (B4.out.trans hb5); clear hb5) | (go_at_call 77; refine (peek_v H5 KP.out).mono ?_; rintro e w6 ⟨rfl, H6, hb6⟩; have B6 := Kept.mk (B5.out.trans hb6); clear hb6) | (go_at_call 40; refine (must_s_ok [101, 110, 99, 111, 100, 105, 110, 103] (by decide) H6 K3.out).mono ?_; rintro e w7 ⟨rfl, H7, hb7⟩; have B7 := Kept.mk (B6.out.trans hb7); clear hb7) | (go_at_call 75; refine (quot_s_no [117, 116, 102, 45, 56] (by decide) H7 K4.out).mono ?_; rintro e w8 ⟨rfl, hl8, hb8⟩; have B8 := Kept.mk (B7.out.trans hb8); clear hb8))
  exact ⟨rfl, rfl, hl8, B8.out⟩
set_option maxRecDepth 100000 in
set_option maxHeartbeats 2000000 in
theorem decl_9 {B b : Nat} {s : ByteArray} {st : Ppa.St} {r r1 r2 r3 r4 r5 : Ppa.Bs} {w : World} (h : Ps B b s st r w) (h1 : Ppa.mustL [118, 101, 114, 115, 105, 111, 110] (Ppa.blanksL r) = .ok r1) (h2 : Ppa.quotM [49, 46, 48] r1 = .ok r2) (hb : blankH r2 = true) (hp : Ppa.peek (Ppa.blanksL r2) = 101) (h3 : Ppa.mustL [101, 110, 99, 111, 100, 105, 110, 103] (Ppa.blanksL r2) = .ok r3) (h4 : Ppa.quotM [117, 116, 102, 45, 56] r3 = .ok r4) (h5 : Ppa.mustL [63, 62] (Ppa.blanksL r4) = .ok r5) :
    Calls Tryz.prog 38 #[.pointer (some ⟨b, 0, none⟩)] w fun e w' => e = .returned (.tuple #[]) ∧ Ps B b s st r5 w' ∧ Bel B b w w' := by
  have B0 : Kept (Bel B b w w) := ⟨Bel.refl _ _ _⟩
  have K1 := Kept.mk h1
  have K2 := Kept.mk h2
  have KB := Kept.mk hb
  have KP := Kept.mk hp
  have K3 := Kept.mk h3
  have K4 := Kept.mk h4
  have K5 := Kept.mk h5
  clear h1 h2 hb hp h3 h4 h5
  go_enter Tryz.func38, Tryz.ntmps38
  have TG0 : Kept True := ⟨trivial⟩
  have TG1 : Kept True := ⟨trivial⟩
  have TG2 : Kept True := ⟨trivial⟩
  have TG4 : Kept True := ⟨trivial⟩
  have TG6 : Kept True := ⟨trivial⟩
  go_wp2_with (first | (go_at_call 39; clear TG0; refine (blanks_s h).mono ?_; rintro e w1 ⟨rfl, H1, hb1⟩; have B1 := Kept.mk (B0.out.trans hb1); clear hb1) | (go_at_call 40; clear TG1; refine (must_s_ok [118, 101, 114, 115, 105, 111, 110] (by decide) H1 K1.out).mono ?_; rintro e w2 ⟨rfl, H2, hb2⟩; have B2 := Kept.mk (B1.out.trans hb2); clear hb2) | (go_at_call 75; clear TG2; refine (quot_s_ok [49, 46, 48] (by decide) H2 K2.out).mono ?_; rintro e w3 ⟨rfl, H3, hb3⟩; have B3 := Kept.mk (B2.out.trans hb3); clear hb3) | (go_at_call 76; refine (blank_t H3 KB.out).mono ?_; rintro e w4 ⟨rfl, H4, hb4⟩; have B4 := Kept.mk (B3.out.trans hb4); clear hb4) | (go_at_call 39; clear TG4; refine (blanks_s H4).mono ?_; rintro e w5 ⟨rfl, H5, hb5⟩; have B5 := Kept.mk (B4.out.trans hb5); clear hb5) | (go_at_call 77; refine (peek_v H5 KP.out).mono ?_; rintro e w6 ⟨rfl, H6, hb6⟩; have B6 := Kept.mk (B5.out.trans hb6); clear hb6) | (go_at_call 40; clear TG6; refine (must_s_ok [101, 110, 99, 111, 100, 105, 110, 103] (by decide) H6 K3.out).mono ?_; rintro e w7 ⟨rfl, H7, hb7⟩; have B7 := Kept.mk (B6.out.trans hb7); clear hb7) | (go_at_call 75; refine (quot_s_ok [117, 116, 102, 45, 56] (by decide) H7 K4.out).mono ?_; rintro e w8 ⟨rfl, H8, hb8⟩; have B8 := Kept.mk (B7.out.trans hb8); clear hb8) | (go_at_call 39; refine (blanks_s H8).mono ?_; rintro e w9 ⟨rfl, H9, hb9⟩; have B9 := Kept.mk (B8.out.trans hb9); clear hb9) | (go_at_call 40; refine (must_s_ok [63, 62] (by decide) H9 K5.out).mono ?_; rintro e w10 ⟨rfl, H10, hb10⟩; have B10 := Kept.mk (B9.out.trans hb10); clear hb10))
  go_end0
  exact ⟨rfl, H10, B10.out⟩
set_option maxRecDepth 100000 in
set_option maxHeartbeats 2000000 in
theorem decl_0 {B b : Nat} {s : ByteArray} {st : Ppa.St} {r r1 r2 r3 r4 r5 : Ppa.Bs} {w : World} (h : Ps B b s st r w) (h1 : Ppa.mustL [118, 101, 114, 115, 105, 111, 110] (Ppa.blanksL r) = .ok r1) (h2 : Ppa.quotM [49, 46, 48] r1 = .ok r2) (hb : blankH r2 = true) (hp : Ppa.peek (Ppa.blanksL r2) = 101) (h3 : Ppa.mustL [101, 110, 99, 111, 100, 105, 110, 103] (Ppa.blanksL r2) = .ok r3) (h4 : Ppa.quotM [117, 116, 102, 45, 56] r3 = .ok r4) (h5 : Ppa.mustL [63, 62] (Ppa.blanksL r4) = .error r5) :
    Calls Tryz.prog 38 #[.pointer (some ⟨b, 0, none⟩)] w fun e w' => Gone (s.size - r5.length) e ∧ r5.length ≤ s.size ∧ Bel B b w w' := by
  have B0 : Kept (Bel B b w w) := ⟨Bel.refl _ _ _⟩
  have K1 := Kept.mk h1
  have K2 := Kept.mk h2
  have KB := Kept.mk hb
  have KP := Kept.mk hp
  have K3 := Kept.mk h3
  have K4 := Kept.mk h4
  have K5 := Kept.mk h5
  clear h1 h2 hb hp h3 h4 h5
  go_enter Tryz.func38, Tryz.ntmps38
  have TG0 : Kept True := ⟨trivial⟩
  have TG1 : Kept True := ⟨trivial⟩
  have TG2 : Kept True := ⟨trivial⟩
  have TG4 : Kept True := ⟨trivial⟩
  have TG6 : Kept True := ⟨trivial⟩
  go_wp2_with (first | (go_at_call 39; clear TG0; refine (blanks_s h).mono ?_; rintro e w1 ⟨rfl, H1, hb1⟩; have B1 := Kept.mk (B0.out.trans hb1); clear hb1) | (go_at_call 40; clear TG1; refine (must_s_ok [118, 101, 114, 115, 105, 111, 110] (by decide) H1 K1.out).mono ?_; rintro e w2 ⟨rfl, H2, hb2⟩; have B2 := Kept.mk (B1.out.trans hb2); clear hb2) | (go_at_call 75; clear TG2; refine (quot_s_ok [49, 46, 48] (by decide) H2 K2.out).mono ?_; rintro e w3 ⟨rfl, H3, hb3⟩; have B3 := Kept.mk (B2.out.trans hb3); clear hb3) | (go_at_call 76; refine (blank_t H3 KB.out).mono ?_; rintro e w4 ⟨rfl, H4, hb4⟩; have B4 := Kept.mk (B3.out.trans hb4); clear hb4) | (go_at_call 39; clear TG4; refine (blanks_s H4).mono ?_; rintro e w5 ⟨rfl, H5, hb5⟩; have B5 := Kept.mk (B4.out.trans hb5); clear hb5) | (go_at_call 77; refine (peek_v H5 KP.out).mono ?_; rintro e w6 ⟨rfl, H6, hb6⟩; have B6 := Kept.mk (B5.out.trans hb6); clear hb6) | (go_at_call 40; clear TG6; refine (must_s_ok [101, 110, 99, 111, 100, 105, 110, 103] (by decide) H6 K3.out).mono ?_; rintro e w7 ⟨rfl, H7, hb7⟩; have B7 := Kept.mk (B6.out.trans hb7); clear hb7) | (go_at_call 75; refine (quot_s_ok [117, 116, 102, 45, 56] (by decide) H7 K4.out).mono ?_; rintro e w8 ⟨rfl, H8, hb8⟩; have B8 := Kept.mk (B7.out.trans hb8); clear hb8) | (go_at_call 39; refine (blanks_s H8).mono ?_; rintro e w9 ⟨rfl, H9, hb9⟩; have B9 := Kept.mk (B8.out.trans hb9); clear hb9) | (go_at_call 40; refine (must_s_no [63, 62] (by decide) H9 K5.out).mono ?_; rintro e w10 ⟨rfl, hl10, hb10⟩; have B10 := Kept.mk (B9.out.trans hb10); clear hb10))
  exact ⟨rfl, rfl, hl10, B10.out⟩
theorem decl_ok {B b : Nat} {s : ByteArray} {st : Ppa.St} {r t : Ppa.Bs} {w : World} (h : Ps B b s st r w) (hd : Ppa.declM r = .ok t) :
    Calls Tryz.prog 38 #[.pointer (some ⟨b, 0, none⟩)] w fun e w' => e = .returned (.tuple #[]) ∧ Ps B b s st t w' ∧ Bel B b w w' := by
  unfold Ppa.declM at hd
  cases h1 : Ppa.mustL [118, 101, 114, 115, 105, 111, 110] (Ppa.blanksL r) with
  | error r1 => rw [h1] at hd; cases hd
  | ok r1 =>
    rw [h1] at hd
    dsimp only at hd
    cases h2 : Ppa.quotM [49, 46, 48] r1 with
    | error r2 => rw [h2] at hd; cases hd
    | ok r2 =>
      rw [h2] at hd
      dsimp only at hd
      have hd : (if blankH r2 = true ∧ (Ppa.blanksL r2).head? = some 101 then _ else _) = _ := hd
      cases hb : blankH r2 with
      | false =>
        rw [if_neg (by rw [hb]; rintro ⟨h, _⟩; cases h), blanksL_of_false hb] at hd
        exact decl_3 h h1 h2 hb hd
      | true =>
        by_cases hh : (Ppa.blanksL r2).head? = some 101
        · have hp : Ppa.peek (Ppa.blanksL r2) = 101 := (peek_is 101 (by decide) _).2 hh
          rw [if_pos ⟨hb, hh⟩] at hd
          cases h3 : Ppa.mustL [101, 110, 99, 111, 100, 105, 110, 103] (Ppa.blanksL r2) with
          | error r3 => rw [h3] at hd; cases hd
          | ok r3 =>
            rw [h3] at hd
            dsimp only at hd
            cases h4 : Ppa.quotM [117, 116, 102, 45, 56] r3 with
            | error r4 => rw [h4] at hd; cases hd
            | ok r4 =>
              rw [h4] at hd
              dsimp only at hd
              exact decl_9 h h1 h2 hb hp h3 h4 hd
        · rw [if_neg (fun h => hh h.2)] at hd
          exact decl_5 h h1 h2 hb (fun e => hh ((peek_is 101 (by decide) _).1 e)) hd
theorem decl_no {B b : Nat} {s : ByteArray} {st : Ppa.St} {r t : Ppa.Bs} {w : World} (h : Ps B b s st r w) (hd : Ppa.declM r = .error t) :
    Calls Tryz.prog 38 #[.pointer (some ⟨b, 0, none⟩)] w fun e w' => Gone (s.size - t.length) e ∧ t.length ≤ s.size ∧ Bel B b w w' := by
  unfold Ppa.declM at hd
  cases h1 : Ppa.mustL [118, 101, 114, 115, 105, 111, 110] (Ppa.blanksL r) with
  | error r1 => rw [h1] at hd; injection hd with hd; subst hd; exact decl_1 h h1
  | ok r1 =>
    rw [h1] at hd
    dsimp only at hd
    cases h2 : Ppa.quotM [49, 46, 48] r1 with
    | error r2 => rw [h2] at hd; injection hd with hd; subst hd; exact decl_2 h h1 h2
    | ok r2 =>
      rw [h2] at hd
      dsimp only at hd
      have hd : (if blankH r2 = true ∧ (Ppa.blanksL r2).head? = some 101 then _ else _) = _ := hd
      cases hb : blankH r2 with
      | false =>
        rw [if_neg (by rw [hb]; rintro ⟨h, _⟩; cases h), blanksL_of_false hb] at hd
        exact decl_4 h h1 h2 hb hd
      | true =>
        by_cases hh : (Ppa.blanksL r2).head? = some 101
        · have hp : Ppa.peek (Ppa.blanksL r2) = 101 := (peek_is 101 (by decide) _).2 hh
          rw [if_pos ⟨hb, hh⟩] at hd
          cases h3 : Ppa.mustL [101, 110, 99, 111, 100, 105, 110, 103] (Ppa.blanksL r2) with
          | error r3 => rw [h3] at hd; injection hd with hd; subst hd; exact decl_7 h h1 h2 hb hp h3
          | ok r3 =>
            rw [h3] at hd
            dsimp only at hd
            cases h4 : Ppa.quotM [117, 116, 102, 45, 56] r3 with
            | error r4 => rw [h4] at hd; injection hd with hd; subst hd; exact decl_8 h h1 h2 hb hp h3 h4
            | ok r4 =>
              rw [h4] at hd
              dsimp only at hd
              exact decl_0 h h1 h2 hb hp h3 h4 hd
        · rw [if_neg (fun h => hh h.2)] at hd
          exact decl_6 h h1 h2 hb (fun e => hh ((peek_is 101 (by decide) _).1 e)) hd
end Go.Proofs.YtlemdhfekdiaeaaGreatDoor.Wps
