/- The program's parser: a reference, whole. -/
import Derived.Test.YtlemdhfekdiaeaaGreatDoorParseE
namespace Go.Proofs.YtlemdhfekdiaeaaGreatDoor.Wps
open Go Go.RowKit Go.Proofs.YtlemdhfekdiaeaaGreatDoor.Kb Go.Proofs.YtlemdhfekdiaeaaGreatDoor.Wch

theorem ways_ok {α : Type} {B b f : Nat} {s : ByteArray} {x : List Value} {w : World} {args : Array Value} {val : α → Value} {o : Except Ppa.Bs (α × Ppa.Bs)} {v : α} {r : Ppa.Bs} (h : Calls Tryz.prog f args w fun e w' => WaysV B b s x w val o e w') (ho : o = .ok (v, r)) :
    Calls Tryz.prog f args w fun e w' => e = .returned (val v) ∧ Pa B b s x r w' ∧ w.grownBy w' (some b) := by
  subst ho
  exact h.mono fun _ _ ⟨hg, he, hp⟩ => ⟨he, hp, hg⟩
theorem ways_no {α : Type} {B b f : Nat} {s : ByteArray} {x : List Value} {w : World} {args : Array Value} {val : α → Value} {o : Except Ppa.Bs (α × Ppa.Bs)} {r : Ppa.Bs} (h : Calls Tryz.prog f args w fun e w' => WaysV B b s x w val o e w') (ho : o = .error r) :
    Calls Tryz.prog f args w fun e w' => Gone (s.size - r.length) e ∧ r.length ≤ s.size ∧ w.grownBy w' (some b) := by
  subst ho
  exact h.mono fun _ _ ⟨hg, he, hp⟩ => ⟨he, hp, hg⟩
set_option maxRecDepth 100000 in
set_option maxHeartbeats 2000000 in
theorem reference_num {B b : Nat} {s : ByteArray} {x : List Value} {t : Ppa.Bs} {w : World} (h : Pa B b s x (35 :: t) w) :
    Calls Tryz.prog 96 #[.pointer (some ⟨b, 0, none⟩)] w fun e w' => WaysV B b s x w numV (Ppa.numM t) e w' := by
  have HQ : Kept (Ppa.peek (35 :: t) = 35) := ⟨(peek_is 35 (by decide) _).2 rfl⟩
  cases hm : Ppa.numM t with
  | ok p =>
    obtain ⟨n, t'⟩ := p
    have HM := Kept.mk hm
    clear hm
    go_enter Tryz.func96, Tryz.ntmps96
    go_wp2_with (first | (go_at_call 77; refine (peek_r h).mono ?_; rintro e w1 ⟨rfl, hb1⟩; rw [HQ.out]; have H1 := h.below hb1; have G1 := Kept.mk (grown_of_below hb1 (some b)); clear hb1; have hs9 := H1.small; obtain ⟨k, hk, c1⟩ := H1.cell; have f1 := H1.row.unf 1; have k0 : (0 : Int) ≤ (k : Int) := (by omega); have k1 : (k : Int) ≤ 65536 := (by omega); have HP3 : Pa B b s x t (w1.setCell ⟨b, 1, none⟩ (.int .i64 ((k : Int) + 1))) := H1.put ((List.suffix_cons _ _).trans H1.suf) (by simp at hk; omega); have G3 := Kept.mk (grown_set G1.out 1 (.int .i64 ((k : Int) + 1)))) | (go_at_call 126; refine (ways_ok (number_r HP3) HM.out).mono ?_; rintro e w2 ⟨rfl, hP2, hg2⟩; have G2 := Kept.mk (G3.out.trans hg2); clear hg2))
    go_ret
    exact ⟨G2.out, rfl, hP2⟩
  | error t' =>
    have HM := Kept.mk hm
    clear hm
    go_enter Tryz.func96, Tryz.ntmps96
    go_wp2_with (first | (go_at_call 77; refine (peek_r h).mono ?_; rintro e w1 ⟨rfl, hb1⟩; rw [HQ.out]; have H1 := h.below hb1; have G1 := Kept.mk (grown_of_below hb1 (some b)); clear hb1; have hs9 := H1.small; obtain ⟨k, hk, c1⟩ := H1.cell; have f1 := H1.row.unf 1; have k0 : (0 : Int) ≤ (k : Int) := (by omega); have k1 : (k : Int) ≤ 65536 := (by omega); have HP3 : Pa B b s x t (w1.setCell ⟨b, 1, none⟩ (.int .i64 ((k : Int) + 1))) := H1.put ((List.suffix_cons _ _).trans H1.suf) (by simp at hk; omega); have G3 := Kept.mk (grown_set G1.out 1 (.int .i64 ((k : Int) + 1)))) | (go_at_call 126; refine (ways_no (number_r HP3) HM.out).mono ?_; rintro e w2 ⟨rfl, hl2, hg2⟩; have G2 := Kept.mk (G3.out.trans hg2); clear hg2))
    exact ⟨rfl, G2.out, rfl, hl2⟩
theorem mustL_one_ok (c : UInt8) (t : Ppa.Bs) : Ppa.mustL [c] (c :: t) = .ok t := by simp [Ppa.mustL]
theorem mustL_one_no {c : UInt8} {r : Ppa.Bs} (h : r.head? ≠ some c) : Ppa.mustL [c] r = .error r := mustL_ne h
set_option maxRecDepth 100000 in
set_option maxHeartbeats 2000000 in
theorem reference_none {B b : Nat} {s : ByteArray} {x : List Value} {r : Ppa.Bs} {w : World} (h : Pa B b s x r w) (h1 : r.head? ≠ some 35) (h2 : r.head? ≠ some 108) (h3 : r.head? ≠ some 103) (h4 : r.head? ≠ some 113) (h5 : r.head? ≠ some 97) :
    Calls Tryz.prog 96 #[.pointer (some ⟨b, 0, none⟩)] w fun e w' => WaysV B b s x w numV (.error r) e w' := by
  have p1 : ¬ Ppa.peek r = 35 := fun e => h1 ((peek_is 35 (by decide) r).1 e)
  have p2 : ¬ Ppa.peek r = 108 := fun e => h2 ((peek_is 108 (by decide) r).1 e)
  have p3 : ¬ Ppa.peek r = 103 := fun e => h3 ((peek_is 103 (by decide) r).1 e)
  have p4 : ¬ Ppa.peek r = 113 := fun e => h4 ((peek_is 113 (by decide) r).1 e)
  have HM := Kept.mk (mustL_one_no h5)
  have q1 : (Ppa.peek r == 35) = false := by simpa using p1
  have q2 : (Ppa.peek r == 108) = false := by simpa using p2
  have q3 : (Ppa.peek r == 103) = false := by simpa using p3
  have q4 : (Ppa.peek r == 113) = false := by simpa using p4
  clear h1 h2 h3 h4 h5
  go_enter Tryz.func96, Tryz.ntmps96
  go_wp2_with (first | (go_at_call 77; refine (peek_r h).mono ?_; rintro e w1 ⟨rfl, hb1⟩; have H1 := h.below hb1; have G1 := Kept.mk (grown_of_below hb1 (some b)); clear hb1) | (go_at_call 40; refine (must_no [97] (by decide) H1 HM.out).mono ?_; rintro e w2 ⟨rfl, hl2, hg2⟩; have G2 := Kept.mk (G1.out.trans hg2); clear hg2))
  exact ⟨rfl, G2.out, rfl, hl2⟩
set_option maxRecDepth 100000 in
set_option maxHeartbeats 2000000 in
theorem reference_amp_ok {B b : Nat} {s : ByteArray} {x : List Value} {t t' : Ppa.Bs} {w : World} (h : Pa B b s x (97 :: t) w) (hx : t.head? = some 109) (hm : Ppa.mustL [109, 112, 59] t = .ok t') :
    Calls Tryz.prog 96 #[.pointer (some ⟨b, 0, none⟩)] w fun e w' => WaysV B b s x w numV (.ok (38, t')) e w' := by
  have HQ : Kept (Ppa.peek (97 :: t) = 97) := ⟨(peek_is 97 (by decide) _).2 rfl⟩
  have hp : Ppa.peek t = 109 := (peek_is 109 (by decide) t).2 hx
  have HM := Kept.mk hm
  have HA := Kept.mk (mustL_one_ok 97 t)
  clear hx hm
  have TAG : Kept (0 = 0) := ⟨rfl⟩
  go_enter Tryz.func96, Tryz.ntmps96
  go_wp2_with (first | (go_at_call 77; clear TAG; refine (peek_r h).mono ?_; rintro e w1 ⟨rfl, hb1⟩; rw [HQ.out]; have H1 := h.below hb1; have G1 := Kept.mk (grown_of_below hb1 (some b)); clear hb1; have TAG2 : Kept (1 = 1) := ⟨rfl⟩) | (go_at_call 40; clear TAG2; refine (must_ok [97] (by decide) H1 HA.out).mono ?_; rintro e w2 ⟨rfl, hP2, hg2⟩; have G2 := Kept.mk (G1.out.trans hg2); clear hg2) | (go_at_call 77; refine (peek_r hP2).mono ?_; rintro e w3 ⟨rfl, hb3⟩; have H3 := hP2.below hb3; have G3 := Kept.mk (G2.out.trans (grown_of_below hb3 (some b))); clear hb3) | (go_at_call 40; refine (must_ok [109, 112, 59] (by decide) H3 HM.out).mono ?_; rintro e w4 ⟨rfl, hP4, hg4⟩; have G4 := Kept.mk (G3.out.trans hg4); clear hg4))
  go_ret
  exact ⟨G4.out, rfl, hP4⟩
set_option maxRecDepth 100000 in
set_option maxHeartbeats 2000000 in
theorem reference_amp_no {B b : Nat} {s : ByteArray} {x : List Value} {t t' : Ppa.Bs} {w : World} (h : Pa B b s x (97 :: t) w) (hx : t.head? = some 109) (hm : Ppa.mustL [109, 112, 59] t = .error t') :
    Calls Tryz.prog 96 #[.pointer (some ⟨b, 0, none⟩)] w fun e w' => WaysV B b s x w numV (.error t') e w' := by
  have HQ : Kept (Ppa.peek (97 :: t) = 97) := ⟨(peek_is 97 (by decide) _).2 rfl⟩
  have hp : Ppa.peek t = 109 := (peek_is 109 (by decide) t).2 hx
  have HM := Kept.mk hm
  have HA := Kept.mk (mustL_one_ok 97 t)
  clear hx hm
  have TAG : Kept (0 = 0) := ⟨rfl⟩
  go_enter Tryz.func96, Tryz.ntmps96
  go_wp2_with (first | (go_at_call 77; clear TAG; refine (peek_r h).mono ?_; rintro e w1 ⟨rfl, hb1⟩; rw [HQ.out]; have H1 := h.below hb1; have G1 := Kept.mk (grown_of_below hb1 (some b)); clear hb1; have TAG2 : Kept (1 = 1) := ⟨rfl⟩) | (go_at_call 40; clear TAG2; refine (must_ok [97] (by decide) H1 HA.out).mono ?_; rintro e w2 ⟨rfl, hP2, hg2⟩; have G2 := Kept.mk (G1.out.trans hg2); clear hg2) | (go_at_call 77; refine (peek_r hP2).mono ?_; rintro e w3 ⟨rfl, hb3⟩; have H3 := hP2.below hb3; have G3 := Kept.mk (G2.out.trans (grown_of_below hb3 (some b))); clear hb3) | (go_at_call 40; refine (must_no [109, 112, 59] (by decide) H3 HM.out).mono ?_; rintro e w4 ⟨rfl, hl4, hg4⟩; have G4 := Kept.mk (G3.out.trans hg4); clear hg4))
  exact ⟨rfl, G4.out, rfl, hl4⟩
set_option maxRecDepth 100000 in
set_option maxHeartbeats 2000000 in
theorem reference_apos_ok {B b : Nat} {s : ByteArray} {x : List Value} {t t' : Ppa.Bs} {w : World} (h : Pa B b s x (97 :: t) w) (hx : t.head? ≠ some 109) (hm : Ppa.mustL [112, 111, 115, 59] t = .ok t') :
    Calls Tryz.prog 96 #[.pointer (some ⟨b, 0, none⟩)] w fun e w' => WaysV B b s x w numV (.ok (39, t')) e w' := by
  have HQ : Kept (Ppa.peek (97 :: t) = 97) := ⟨(peek_is 97 (by decide) _).2 rfl⟩
  have hp : ¬ Ppa.peek t = 109 := fun e => hx ((peek_is 109 (by decide) t).1 e)
  have HM := Kept.mk hm
  have HA := Kept.mk (mustL_one_ok 97 t)
  clear hx hm
  have TAG : Kept (0 = 0) := ⟨rfl⟩
  go_enter Tryz.func96, Tryz.ntmps96
  go_wp2_with (first | (go_at_call 77; clear TAG; refine (peek_r h).mono ?_; rintro e w1 ⟨rfl, hb1⟩; rw [HQ.out]; have H1 := h.below hb1; have G1 := Kept.mk (grown_of_below hb1 (some b)); clear hb1; have TAG2 : Kept (1 = 1) := ⟨rfl⟩) | (go_at_call 40; clear TAG2; refine (must_ok [97] (by decide) H1 HA.out).mono ?_; rintro e w2 ⟨rfl, hP2, hg2⟩; have G2 := Kept.mk (G1.out.trans hg2); clear hg2) | (go_at_call 77; refine (peek_r hP2).mono ?_; rintro e w3 ⟨rfl, hb3⟩; have H3 := hP2.below hb3; have G3 := Kept.mk (G2.out.trans (grown_of_below hb3 (some b))); clear hb3) | (go_at_call 40; refine (must_ok [112, 111, 115, 59] (by decide) H3 HM.out).mono ?_; rintro e w4 ⟨rfl, hP4, hg4⟩; have G4 := Kept.mk (G3.out.trans hg4); clear hg4))
  go_ret
  exact ⟨G4.out, rfl, hP4⟩
set_option maxRecDepth 100000 in
set_option maxHeartbeats 2000000 in
theorem reference_apos_no {B b : Nat} {s : ByteArray} {x : List Value} {t t' : Ppa.Bs} {w : World} (h : Pa B b s x (97 :: t) w) (hx : t.head? ≠ some 109) (hm : Ppa.mustL [112, 111, 115, 59] t = .error t') :
    Calls Tryz.prog 96 #[.pointer (some ⟨b, 0, none⟩)] w fun e w' => WaysV B b s x w numV (.error t') e w' := by
  have HQ : Kept (Ppa.peek (97 :: t) = 97) := ⟨(peek_is 97 (by decide) _).2 rfl⟩
  have hp : ¬ Ppa.peek t = 109 := fun e => hx ((peek_is 109 (by decide) t).1 e)
  have HM := Kept.mk hm
  have HA := Kept.mk (mustL_one_ok 97 t)
  clear hx hm
  have TAG : Kept (0 = 0) := ⟨rfl⟩
  go_enter Tryz.func96, Tryz.ntmps96
  go_wp2_with (first | (go_at_call 77; clear TAG; refine (peek_r h).mono ?_; rintro e w1 ⟨rfl, hb1⟩; rw [HQ.out]; have H1 := h.below hb1; have G1 := Kept.mk (grown_of_below hb1 (some b)); clear hb1; have TAG2 : Kept (1 = 1) := ⟨rfl⟩) | (go_at_call 40; clear TAG2; refine (must_ok [97] (by decide) H1 HA.out).mono ?_; rintro e w2 ⟨rfl, hP2, hg2⟩; have G2 := Kept.mk (G1.out.trans hg2); clear hg2) | (go_at_call 77; refine (peek_r hP2).mono ?_; rintro e w3 ⟨rfl, hb3⟩; have H3 := hP2.below hb3; have G3 := Kept.mk (G2.out.trans (grown_of_below hb3 (some b))); clear hb3) | (go_at_call 40; refine (must_no [112, 111, 115, 59] (by decide) H3 HM.out).mono ?_; rintro e w4 ⟨rfl, hl4, hg4⟩; have G4 := Kept.mk (G3.out.trans hg4); clear hg4))
  exact ⟨rfl, G4.out, rfl, hl4⟩
theorem reference_r {B b : Nat} {s : ByteArray} {x : List Value} {r : Ppa.Bs} {w : World} (h : Pa B b s x r w) :
    Calls Tryz.prog 96 #[.pointer (some ⟨b, 0, none⟩)] w fun e w' => WaysV B b s x w numV (Ppa.refM r) e w' := by
  by_cases h1 : r.head? = some 35
  · obtain ⟨t, rfl⟩ := head_cons h1
    exact reference_num h
  · by_cases h2 : r.head? = some 108
    · have := reference_lit h 108 _ _ h2 (.inl ⟨rfl, rfl, rfl⟩)
      obtain ⟨t, rfl⟩ := head_cons h2
      exact this
    · by_cases h3 : r.head? = some 103
      · have := reference_lit h 103 _ _ h3 (.inr (.inl ⟨rfl, rfl, rfl⟩))
        obtain ⟨t, rfl⟩ := head_cons h3
        exact this
      · by_cases h4 : r.head? = some 113
        · have := reference_lit h 113 _ _ h4 (.inr (.inr ⟨rfl, rfl, rfl⟩))
          obtain ⟨t, rfl⟩ := head_cons h4
          exact this
        · by_cases h5 : r.head? = some 97
          · obtain ⟨t, rfl⟩ := head_cons h5
            by_cases h6 : t.head? = some 109
            · obtain ⟨u, rfl⟩ := head_cons h6
              rw [refM_am]
              unfold isM
              cases hm : Ppa.mustL [109, 112, 59] (109 :: u) with
              | ok t' => exact reference_amp_ok h h6 hm
              | error t' => exact reference_amp_no h h6 hm
            · rw [refM_a h6]
              unfold isM
              cases hm : Ppa.mustL [112, 111, 115, 59] t with
              | ok t' => exact reference_apos_ok h h6 hm
              | error t' => exact reference_apos_no h h6 hm
          · rw [refM_none h1 h2 h3 h4 h5]
            exact reference_none h h1 h2 h3 h4 h5
end Go.Proofs.YtlemdhfekdiaeaaGreatDoor.Wps
