/- The program's parser: an attribute's value, whole; Reset of a builder within a struct. -/
import Derived.Test.YtlemdhfekdiaeaaGreatDoorParseH
namespace Go.Proofs.YtlemdhfekdiaeaaGreatDoor.Wps
open Go Go.RowKit Go.Proofs.YtlemdhfekdiaeaaGreatDoor.Kb Go.Proofs.YtlemdhfekdiaeaaGreatDoor.Wch Go.Proofs.YtlemdhfekdiaeaaGreatDoor.Emk

theorem valM_none {r : Ppa.Bs} (h1 : r.head? ≠ some 34) (h2 : r.head? ≠ some 39) : Ppa.valM r = .error r := by
  cases r with
  | nil => rfl
  | cons y t =>
    show (if y = 34 ∨ y = 39 then _ else Except.error (y :: t)) = _
    rw [if_neg]
    rintro (e | e)
    · exact h1 (by rw [e]; rfl)
    · exact h2 (by rw [e]; rfl)
set_option maxRecDepth 100000 in
theorem value_none {B b : Nat} {s : ByteArray} {x : List Value} {r : Ppa.Bs} {w : World} (h : Pa B b s x r w) (h1 : r.head? ≠ some 34) (h2 : r.head? ≠ some 39) :
    Calls Tryz.prog 120 #[.pointer (some ⟨b, 0, none⟩)] w fun e w' => WaysV B b s x w strV (.error r) e w' := by
  have p1 : ¬ Ppa.peek r = 34 := fun e => h1 ((peek_is 34 (by decide) r).1 e)
  have p2 : ¬ Ppa.peek r = 39 := fun e => h2 ((peek_is 39 (by decide) r).1 e)
  have q1 : (Ppa.peek r != 34) = true := by simpa using p1
  have q2 : (Ppa.peek r != 39) = true := by simpa using p2
  clear h1 h2
  go_enter Tryz.func120, Tryz.ntmps120
  go_wp2_with (first | (go_at_call 77; refine (peek_r h).mono ?_; rintro e w1 ⟨rfl, hb1⟩; have H1 := h.below hb1; have G1 := Kept.mk (grown_of_below hb1 (some b)); clear hb1) | (go_at_call 44; refine (no_r H1).mono ?_; rintro e w4 ⟨rfl, rfl⟩))
  exact ⟨rfl, G1.out, rfl, H1.len⟩
theorem value_r {B b : Nat} {s : ByteArray} {x : List Value} {r : Ppa.Bs} {w : World} (h : Pa B b s x r w) (ht : Pch.textsL r = true) :
    Calls Tryz.prog 120 #[.pointer (some ⟨b, 0, none⟩)] w fun e w' => WaysV B b s x w strV (Ppa.valM r) e w' := by
  by_cases h1 : r.head? = some 34
  · obtain ⟨t, rfl⟩ := head_cons h1
    exact value_quot h (Ppa.texts_low (by decide) ht)
  · by_cases h2 : r.head? = some 39
    · obtain ⟨t, rfl⟩ := head_cons h2
      exact value_apos h (Ppa.texts_low (by decide) ht)
    · rw [valM_none h1 h2]
      exact value_none h h1 h2
end Go.Proofs.YtlemdhfekdiaeaaGreatDoor.Wps
