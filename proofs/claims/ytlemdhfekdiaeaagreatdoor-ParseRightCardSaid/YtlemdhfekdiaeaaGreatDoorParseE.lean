/- The program's parser: a reference. -/
import Derived.Test.YtlemdhfekdiaeaaGreatDoorParseD
namespace Go.Proofs.YtlemdhfekdiaeaaGreatDoor.Wps
open Go Go.RowKit Go.Proofs.YtlemdhfekdiaeaaGreatDoor.Kb Go.Proofs.YtlemdhfekdiaeaaGreatDoor.Wch

theorem head_cons {r : Ppa.Bs} {c : UInt8} (h : r.head? = some c) : ∃ t, r = c :: t := by
  cases r with
  | nil => cases h
  | cons y t => exact ⟨t, by injection h with e; rw [e]⟩
theorem number_r {B b : Nat} {s : ByteArray} {x : List Value} {r : Ppa.Bs} {w : World} (h : Pa B b s x r w) :
    Calls Tryz.prog 126 #[.pointer (some ⟨b, 0, none⟩)] w fun e w' => WaysV B b s x w numV (Ppa.numM r) e w' := by
  by_cases hx : r.head? = some 120
  · have h1 := number_hex h hx
    obtain ⟨t, rfl⟩ := head_cons hx
    exact h1
  · have h1 := number_dec h hx
    have e : Ppa.numM r = Ppa.numG false 0 false r := by
      unfold Ppa.numM
      split
      · exact absurd rfl hx
      · rfl
    rw [e]
    exact h1
def isM (a : Ppa.Bs) (n : Nat) (r : Ppa.Bs) : Except Ppa.Bs (Nat × Ppa.Bs) := match Ppa.mustL a r with | .ok t => .ok (n, t) | .error t => .error t
theorem refM_num (t : Ppa.Bs) : Ppa.refM (35 :: t) = Ppa.numM t := rfl
theorem refM_l (t : Ppa.Bs) : Ppa.refM (108 :: t) = isM [108, 116, 59] 60 (108 :: t) := rfl
theorem refM_g (t : Ppa.Bs) : Ppa.refM (103 :: t) = isM [103, 116, 59] 62 (103 :: t) := rfl
theorem refM_q (t : Ppa.Bs) : Ppa.refM (113 :: t) = isM [113, 117, 111, 116, 59] 34 (113 :: t) := rfl
theorem refM_am (t : Ppa.Bs) : Ppa.refM (97 :: 109 :: t) = isM [109, 112, 59] 38 (109 :: t) := rfl
theorem refM_a {t : Ppa.Bs} (h : t.head? ≠ some 109) : Ppa.refM (97 :: t) = isM [112, 111, 115, 59] 39 t := by
  cases t with
  | nil => rfl
  | cons y u =>
    unfold Ppa.refM
    split
    · rename_i e; cases e
    · rename_i e; cases e
    · rename_i e; cases e
    · rename_i e; cases e
    · rename_i e; injection e with _ e; injection e with e _; exact absurd (by rw [e]; rfl) h
    · rename_i e; injection e with _ e; subst e; rfl
    · rename_i e; exact absurd rfl (e _)
theorem refM_none {r : Ppa.Bs} (h1 : r.head? ≠ some 35) (h2 : r.head? ≠ some 108) (h3 : r.head? ≠ some 103) (h4 : r.head? ≠ some 113) (h5 : r.head? ≠ some 97) : Ppa.refM r = .error r := by
  unfold Ppa.refM
  split
  · exact absurd rfl h1
  · exact absurd rfl h2
  · exact absurd rfl h3
  · exact absurd rfl h4
  · exact absurd rfl h5
  · exact absurd rfl h5
  · rfl
theorem low_lit {l : List UInt8} (h : l.all (fun c => decide (c.toNat < 128)) = true) : ∀ c ∈ (⟨l.toArray⟩ : ByteArray).data.toList, c.toNat < 128 := by
  intro c hc
  have := List.all_eq_true.1 h c (by simpa using hc)
  simpa using this
/-- a fixed word, when what comes of it is known -/
theorem must_ok {B b : Nat} {s : ByteArray} {x : List Value} {r t : Ppa.Bs} {w : World} (l : List UInt8) (hl : l.all (fun c => decide (c.toNat < 128)) = true) (h : Pa B b s x r w) (hm : Ppa.mustL l r = .ok t) :
    Calls Tryz.prog 40 #[.pointer (some ⟨b, 0, none⟩), .string ⟨l.toArray⟩] w fun e w' => e = .returned (.tuple #[]) ∧ Pa B b s x t w' ∧ w.grownBy w' (some b) := by
  refine (must_r ⟨l.toArray⟩ (low_lit hl) h).mono ?_
  intro e w' hw
  obtain ⟨hg, hw⟩ := hw
  simp only [hm] at hw
  exact ⟨hw.1, hw.2, hg⟩
theorem must_no {B b : Nat} {s : ByteArray} {x : List Value} {r t : Ppa.Bs} {w : World} (l : List UInt8) (hl : l.all (fun c => decide (c.toNat < 128)) = true) (h : Pa B b s x r w) (hm : Ppa.mustL l r = .error t) :
    Calls Tryz.prog 40 #[.pointer (some ⟨b, 0, none⟩), .string ⟨l.toArray⟩] w fun e w' => Gone (s.size - t.length) e ∧ t.length ≤ s.size ∧ w.grownBy w' (some b) := by
  refine (must_r ⟨l.toArray⟩ (low_lit hl) h).mono ?_
  intro e w' hw
  obtain ⟨hg, hw⟩ := hw
  simp only [hm] at hw
  exact ⟨hw.1, hw.2, hg⟩
set_option maxRecDepth 100000 in
set_option maxHeartbeats 2000000 in
theorem reference_lit {B b : Nat} {s : ByteArray} {x : List Value} {r : Ppa.Bs} {w : World} (h : Pa B b s x r w) (c : UInt8) (l : List UInt8) (n : Nat) (hx : r.head? = some c) (hc : (c = 108 ∧ l = [108, 116, 59] ∧ n = 60) ∨ (c = 103 ∧ l = [103, 116, 59] ∧ n = 62) ∨ (c = 113 ∧ l = [113, 117, 111, 116, 59] ∧ n = 34)) :
    Calls Tryz.prog 96 #[.pointer (some ⟨b, 0, none⟩)] w fun e w' => WaysV B b s x w numV (isM l n r) e w' := by
  unfold isM
  rcases hc with ⟨rfl, rfl, rfl⟩ | ⟨rfl, rfl, rfl⟩ | ⟨rfl, rfl, rfl⟩
  · have HQ := Kept.mk ((peek_is 108 (by decide) r).2 hx)
    have e0 : ((108 : UInt8).toNat : Int) = 108 := rfl
    rw [e0] at HQ
    clear hx e0
    cases hm : Ppa.mustL [108, 116, 59] r with
    | ok t =>
      have HM := Kept.mk hm
      clear hm
      go_enter Tryz.func96, Tryz.ntmps96
      go_wp2_with (first | (go_at_call 77; refine (peek_r h).mono ?_; rintro e w1 ⟨rfl, hb1⟩; rw [HQ.out]; have H1 := h.below hb1; have G1 := Kept.mk (grown_of_below hb1 (some b)); clear hb1) | (go_at_call 40; refine (must_ok [108, 116, 59] (by decide) H1 HM.out).mono ?_; rintro e w2 ⟨rfl, hP2, hg2⟩; have G2 := Kept.mk (G1.out.trans hg2); clear hg2))
      go_ret
      exact ⟨G2.out, rfl, hP2⟩
    | error t =>
      have HM := Kept.mk hm
      clear hm
      go_enter Tryz.func96, Tryz.ntmps96
      go_wp2_with (first | (go_at_call 77; refine (peek_r h).mono ?_; rintro e w1 ⟨rfl, hb1⟩; rw [HQ.out]; have H1 := h.below hb1; have G1 := Kept.mk (grown_of_below hb1 (some b)); clear hb1) | (go_at_call 40; refine (must_no [108, 116, 59] (by decide) H1 HM.out).mono ?_; rintro e w2 ⟨rfl, hl2, hg2⟩; have G2 := Kept.mk (G1.out.trans hg2); clear hg2))
      exact ⟨rfl, G2.out, rfl, hl2⟩
  · have HQ := Kept.mk ((peek_is 103 (by decide) r).2 hx)
    have e0 : ((103 : UInt8).toNat : Int) = 103 := rfl
    rw [e0] at HQ
    clear hx e0
    cases hm : Ppa.mustL [103, 116, 59] r with
    | ok t =>
      have HM := Kept.mk hm
      clear hm
      go_enter Tryz.func96, Tryz.ntmps96
      go_wp2_with (first | (go_at_call 77; refine (peek_r h).mono ?_; rintro e w1 ⟨rfl, hb1⟩; rw [HQ.out]; have H1 := h.below hb1; have G1 := Kept.mk (grown_of_below hb1 (some b)); clear hb1) | (go_at_call 40; refine (must_ok [103, 116, 59] (by decide) H1 HM.out).mono ?_; rintro e w2 ⟨rfl, hP2, hg2⟩; have G2 := Kept.mk (G1.out.trans hg2); clear hg2))
      go_ret
      exact ⟨G2.out, rfl, hP2⟩
    | error t =>
      have HM := Kept.mk hm
      clear hm
      go_enter Tryz.func96, Tryz.ntmps96
      go_wp2_with (first | (go_at_call 77; refine (peek_r h).mono ?_; rintro e w1 ⟨rfl, hb1⟩; rw [HQ.out]; have H1 := h.below hb1; have G1 := Kept.mk (grown_of_below hb1 (some b)); clear hb1) | (go_at_call 40; refine (must_no [103, 116, 59] (by decide) H1 HM.out).mono ?_; rintro e w2 ⟨rfl, hl2, hg2⟩; have G2 := Kept.mk (G1.out.trans hg2); clear hg2))
      exact ⟨rfl, G2.out, rfl, hl2⟩
  · have HQ := Kept.mk ((peek_is 113 (by decide) r).2 hx)
    have e0 : ((113 : UInt8).toNat : Int) = 113 := rfl
    rw [e0] at HQ
    clear hx e0
    cases hm : Ppa.mustL [113, 117, 111, 116, 59] r with
    | ok t =>
      have HM := Kept.mk hm
      clear hm
      go_enter Tryz.func96, Tryz.ntmps96
      go_wp2_with (first | (go_at_call 77; refine (peek_r h).mono ?_; rintro e w1 ⟨rfl, hb1⟩; rw [HQ.out]; have H1 := h.below hb1; have G1 := Kept.mk (grown_of_below hb1 (some b)); clear hb1) | (go_at_call 40; refine (must_ok [113, 117, 111, 116, 59] (by decide) H1 HM.out).mono ?_; rintro e w2 ⟨rfl, hP2, hg2⟩; have G2 := Kept.mk (G1.out.trans hg2); clear hg2))
      go_ret
      exact ⟨G2.out, rfl, hP2⟩
    | error t =>
      have HM := Kept.mk hm
      clear hm
      go_enter Tryz.func96, Tryz.ntmps96
      go_wp2_with (first | (go_at_call 77; refine (peek_r h).mono ?_; rintro e w1 ⟨rfl, hb1⟩; rw [HQ.out]; have H1 := h.below hb1; have G1 := Kept.mk (grown_of_below hb1 (some b)); clear hb1) | (go_at_call 40; refine (must_no [113, 117, 111, 116, 59] (by decide) H1 HM.out).mono ?_; rintro e w2 ⟨rfl, hl2, hg2⟩; have G2 := Kept.mk (G1.out.trans hg2); clear hg2))
      exact ⟨rfl, G2.out, rfl, hl2⟩
end Go.Proofs.YtlemdhfekdiaeaaGreatDoor.Wps
