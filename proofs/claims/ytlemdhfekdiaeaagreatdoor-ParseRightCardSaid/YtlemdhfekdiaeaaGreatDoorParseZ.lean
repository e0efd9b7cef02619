/- The program's parser: a content. -/
import Derived.Test.YtlemdhfekdiaeaaGreatDoorParseY
namespace Go.Proofs.YtlemdhfekdiaeaaGreatDoor.Wps
open Go Go.RowKit Go.Proofs.YtlemdhfekdiaeaaGreatDoor.Kb Go.Proofs.YtlemdhfekdiaeaaGreatDoor.Wch Go.Proofs.YtlemdhfekdiaeaaGreatDoor.Emk

/-- where a content stands -/
structure Co (B b : Nat) (s : ByteArray) (p : Int) (d F : Nat) (o : Except Ppa.Bs (Ppa.Bs × Ppa.St)) (g run : Nat) (st : Ppa.St) (r : Ppa.Bs) (w : World) : Prop where
  ps : Ps B b s st r w
  m : Ppa.meas st r ≤ 300000
  tx : Pch.textsL r = true
  eq : Ppa.contF s.size g p d run r st = some o
  dl : d + r.length ≤ 100000
  gF : g ≤ F
  rn : run + r.length ≤ 65536
section
variable {N g d run : Nat} {p : Int} {st : Ppa.St}
theorem cont_end (h : p < 0) : Ppa.contF N (g + 1) p d run [] st = some (.ok ([], Ppa.flush st p)) := by rw [Ppa.contF, if_pos h]
theorem cont_lack (h : ¬ p < 0) : Ppa.contF N (g + 1) p d run [] st = some (.error []) := by rw [Ppa.contF, if_neg h]
theorem cont_bad {t : Ppa.Bs} (h : 2 ≤ run) : Ppa.contF N (g + 1) p d run (62 :: t) st = some (.error (62 :: t)) := by rw [Ppa.contF, if_pos ⟨rfl, h⟩]
theorem cont_close {t : Ppa.Bs} (h : 0 ≤ p) : Ppa.contF N (g + 1) p d run (60 :: 47 :: t) st = some (.ok (t, Ppa.flush st p)) := by
  rw [Ppa.contF, if_neg (by rintro ⟨h, _⟩; cases h), if_pos rfl, if_pos ⟨h, rfl⟩]
  rfl
theorem cont_mark {t : Ppa.Bs} (h : ¬ (0 ≤ p ∧ t.head? = some 47)) : Ppa.contF N (g + 1) p d run (60 :: t) st = match Ppa.markF N g p d t st with | some (.ok (r', s')) => Ppa.contF N g p d 0 r' s' | o => o := by
  rw [Ppa.contF, if_neg (by rintro ⟨h, _⟩; cases h), if_pos rfl, if_neg h]
  rfl
theorem cont_ref {t : Ppa.Bs} : Ppa.contF N (g + 1) p d run (38 :: t) st = match Ppa.refM t with | .ok (n, r') => Ppa.contF N g p d 0 r' { st with text := st.text ++ Lib.encodeRune n } | .error r' => some (.error r') := by
  rw [Ppa.contF, if_neg (by rintro ⟨h, _⟩; cases h), if_neg (by decide), if_pos rfl]
  rfl
theorem cont_cr {t : Ppa.Bs} : Ppa.contF N (g + 1) p d run (13 :: t) st = Ppa.contF N g p d 0 (Ppa.nlL t) { st with text := st.text ++ [10] } := by
  rw [Ppa.contF, if_neg (by rintro ⟨h, _⟩; cases h), if_neg (by decide), if_neg (by decide), if_pos rfl]
theorem cont_char {x : UInt8} {t : Ppa.Bs} (h0 : ¬ (x = 62 ∧ 2 ≤ run)) (h1 : x ≠ 60) (h2 : x ≠ 38) (h3 : x ≠ 13) : Ppa.contF N (g + 1) p d run (x :: t) st = Ppa.contF N g p d (if x = 93 then run + 1 else 0) t { st with text := st.text ++ [x] } := by
  rw [Ppa.contF, if_neg h0, if_neg h1, if_neg h2, if_neg h3]
end
theorem cont_short {N : Nat} {o : Except Ppa.Bs (Ppa.Bs × Ppa.St)} : ∀ (u : Ppa.Bs) (f : Nat) (p : Int) (d run : Nat) (t : Ppa.Bs) (s : Ppa.St), (∀ y ∈ u, 128 ≤ y.toNat) → f < u.length → Ppa.contF N f p d run (u ++ t) s = some o → False
  | [], f, _, _, _, _, _, _, hf, _ => by simp at hf
  | x :: u, 0, p, d, run, t, s, _, _, he => by unfold Ppa.contF at he; cases he
  | x :: u, f + 1, p, d, run, t, s, h, hf, he => by
    rw [List.cons_append, Ppa.contF_high N f p d run x (u ++ t) s (h x (by simp))] at he
    exact cont_short u f p d 0 t _ (fun y hy => h y (by simp [hy])) (by simpa using hf) he
/-- a character is copied -/
theorem cont_copy {N g d run : Nat} {p : Int} {st : Ppa.St} {x : UInt8} {t : Ppa.Bs} {o : Except Ppa.Bs (Ppa.Bs × Ppa.St)} (ht : Pch.textsL (x :: t) = true) (h0 : ¬ (x = 62 ∧ 2 ≤ run)) (h1 : x ≠ 60) (h2 : x ≠ 38) (h3 : x ≠ 13) (he : Ppa.contF N (g + 1) p d run (x :: t) st = some o) :
    ∃ g', g' < g + 1 ∧ Ppa.contF N g' p d (if x = 93 then run + 1 else 0) (Ppa.skip (x :: t)) { st with text := st.text ++ Lib.encodeRune (Ppa.peek (x :: t)) } = some o := by
  have hne : (x :: t) ≠ [] := by simp
  have hcb := Ppa.char_bytes hne ht
  rw [peek_has hne, hcb]
  rcases Nat.lt_or_ge x.toNat 128 with hx | hx
  · rw [cont_char h0 h1 h2 h3] at he
    unfold Ppa.skip
    rw [Lib.decodeL_ascii x t hx]
    exact ⟨g, by omega, he⟩
  · have hd2 := Lib.decodeL_le (x :: t) hne
    have hd1 := Lib.decodeL_width (x :: t)
    have h93 : ¬ x = 93 := fun e => by subst e; revert hx; decide
    rw [if_neg h93]
    have hz : ((x :: t).take (Lib.decodeL (x :: t)).2).length = (Lib.decodeL (x :: t)).2 := by rw [List.length_take]; omega
    rcases Nat.lt_or_ge (g + 1) (Lib.decodeL (x :: t)).2 with hg | hg
    · exfalso
      exact cont_short ((x :: t).take (Lib.decodeL (x :: t)).2) (g + 1) p d run ((x :: t).drop (Lib.decodeL (x :: t)).2) st (Ppa.char_high hx ht) (by omega) (by rw [List.take_append_drop]; exact he)
    · have hc := Ppa.contF_copy N ((x :: t).take (Lib.decodeL (x :: t)).2) (g + 1 - (Lib.decodeL (x :: t)).2) p d run ((x :: t).drop (Lib.decodeL (x :: t)).2) st (by intro e; rw [e] at hz; simp at hz; omega) (Ppa.char_high hx ht)
      rw [hz, List.take_append_drop, show g + 1 - (Lib.decodeL (x :: t)).2 + (Lib.decodeL (x :: t)).2 = g + 1 by omega, he] at hc
      exact ⟨g + 1 - (Lib.decodeL (x :: t)).2, by omega, hc.symm⟩
theorem nl_texts {u : Ppa.Bs} (h : Pch.textsL u = true) : Pch.textsL (Ppa.nlL u) = true := by
  unfold Ppa.nlL
  split
  · exact Ppa.texts_low (by decide) h
  · exact h
theorem may_nl {B b : Nat} {s : ByteArray} {st : Ppa.St} {r : Ppa.Bs} {w : World} (h : Ps B b s st r w) : Calls Tryz.prog 41 #[.pointer (some ⟨b, 0, none⟩), .int .i32 10] w fun e w' => (∃ x : Bool, e = .returned (.bool x)) ∧ Ps B b s st (Ppa.nlL r) w' ∧ Bel B b w w' := by
  by_cases h1 : r.head? = some 10
  · obtain ⟨t, rfl⟩ := head_cons h1
    exact (may_yes 10 (by decide) h).mono fun _ _ ⟨he, hp, hb⟩ => ⟨⟨_, he⟩, hp, hb⟩
  · have hn : Ppa.nlL r = r := by
      unfold Ppa.nlL
      split
      · exact absurd rfl h1
      · rfl
    rw [hn]
    exact (may_not 10 (by decide) h1 h).mono fun _ _ ⟨he, hp, hb⟩ => ⟨⟨_, he⟩, hp, hb⟩
set_option maxRecDepth 100000 in
set_option maxHeartbeats 4000000 in
theorem content_s {B b F : Nat} {s : ByteArray} (hM : ∀ g, g < F → MarkC B b s g) : ContC B b s F := by
  intro p d st r w o h hm ht hp0 hp1 hd he
  have B00 : Kept (Bel B b w w) := ⟨Bel.refl _ _ _⟩
  have hsm := h.small
  have hlen := h.len
  have i0 : (0 : Int) ≤ (d : Int) := by omega
  have i1 : (d : Int) ≤ 100000 := by omega
  go_enter Tryz.func58, Tryz.ntmps58
  go_wp2
  go_loopg [6] F (fun g x6 wx => ∃ (run : Nat) (st' : Ppa.St) (r' : Ppa.Bs), x6 = .int .i64 (run : Int) ∧ Co B b s p d F o g run st' r' wx ∧ Kept (Bel B b w wx))
  case atStart => exact ⟨0, st, r, rfl, ⟨h, hm, ht, he, hd, Nat.le_refl _, by omega⟩, B00⟩
  case round =>
    obtain ⟨run, st', r', rfl, V, B0⟩ := hrel
    obtain ⟨g, rfl⟩ : ∃ g, gk = g + 1 := by
      cases gk with
      | zero => have h2 := V.eq; unfold Ppa.contF at h2; cases h2
      | succ g => exact ⟨g, rfl⟩
    clear h hm ht he hd hlen
    have hl := V.ps.len
    have hgF := V.gF
    have hrn := V.rn
    have hdl := V.dl
    have hmm := V.m
    have hnt : st'.nodes.length ≤ 300000 ∧ st'.text.length ≤ 300000 := by unfold Ppa.meas at hmm; omega
    obtain ⟨hn1, hn2⟩ := hnt
    have r0 : (0 : Int) ≤ (run : Int) := by omega
    have r1 : (run : Int) ≤ 65536 := by omega
    cases r' with
    | nil =>
      have HP : Kept (Ppa.peek [] = -1) := ⟨rfl⟩
      by_cases hp : p < 0
      · have HX : Kept (o = .ok ([], Ppa.flush st' p)) := ⟨by have h2 := V.eq; rw [cont_end hp] at h2; injection h2 with h2; exact h2.symm⟩
        go_wp2_with (first | (go_at_call 77; refine (peek_v V.ps HP.out).mono ?_; rintro e w1 ⟨rfl, H1, hb1⟩; have B1 := Kept.mk (B0.out.trans hb1); clear hb1) | (go_at_call 72; refine (flush_s p H1 (by omega) (by omega)).mono ?_; rintro e w2 ⟨rfl, H2, hb2⟩; have B2 := Kept.mk (B1.out.trans hb2); clear hb2))
        go_end0
        exact ⟨B2.out, by rw [HX.out]; exact ⟨rfl, H2⟩⟩
      · have HX : Kept (o = .error []) := ⟨by have h2 := V.eq; rw [cont_lack hp] at h2; injection h2 with h2; exact h2.symm⟩
        go_wp2_with (first | (go_at_call 77; refine (peek_v V.ps HP.out).mono ?_; rintro e w1 ⟨rfl, H1, hb1⟩; have B1 := Kept.mk (B0.out.trans hb1); clear hb1) | (go_at_call 44; refine (no_s H1).mono ?_; rintro e w2 ⟨rfl, rfl⟩))
        exact ⟨rfl, B1.out, by rw [HX.out]; exact ⟨rfl, by simp⟩⟩
    | cons y u =>
      simp only [List.length_cons] at hl hrn hdl
      by_cases hbad : y = 62 ∧ 2 ≤ run
      · obtain ⟨rfl, hrun⟩ := hbad
        have HX : Kept (o = .error (62 :: u)) := ⟨by have h2 := V.eq; rw [cont_bad hrun] at h2; injection h2 with h2; exact h2.symm⟩
        have HP : Kept (Ppa.peek (62 :: u) = 62) := ⟨(peek_is 62 (by decide) _).2 rfl⟩
        have r2 : (2 : Int) ≤ (run : Int) := by omega
        clear hrun
        go_wp2_with (first | (go_at_call 77; refine (peek_v V.ps HP.out).mono ?_; rintro e w1 ⟨rfl, H1, hb1⟩; have B1 := Kept.mk (B0.out.trans hb1); clear hb1) | (go_at_call 44; refine (no_s H1).mono ?_; rintro e w2 ⟨rfl, rfl⟩))
        exact ⟨rfl, B1.out, by rw [HX.out]; exact ⟨rfl, H1.len⟩⟩
      · by_cases y60 : y = 60
        · subst y60
          have HP : Kept (Ppa.peek (60 :: u) = 60) := ⟨(peek_is 60 (by decide) _).2 rfl⟩
          have htu := Ppa.texts_low (by decide) V.tx
          have hmu := meas_small (List.suffix_cons 60 u) hmm
          by_cases hc : 0 ≤ p ∧ u.head? = some 47
          · obtain ⟨hp, hc⟩ := hc
            obtain ⟨t, rfl⟩ := head_cons hc
            have HX : Kept (o = .ok (t, Ppa.flush st' p)) := ⟨by have h2 := V.eq; rw [cont_close hp] at h2; injection h2 with h2; exact h2.symm⟩
            have hp' : ¬ p < 0 := by omega
            clear hc hbad
            go_wp2_with (first | (go_at_call 77; refine (peek_v V.ps HP.out).mono ?_; rintro e w1 ⟨rfl, H1, hb1⟩; have B1 := Kept.mk (B0.out.trans hb1); clear hb1; obtain ⟨k, hk, c1⟩ := H1.at_; have f1 := H1.unf 1; have k0 : (0 : Int) ≤ (k : Int) := (by omega); have k1 : (k : Int) ≤ 65536 := (by omega); have H2 := H1.put (H1.suf_tail) (z := (k : Int) + 1) (by simp at hk ⊢; omega); have B2 := Kept.mk (B1.out.setCell (p := ⟨b, 1, none⟩) H1.le (.int .i64 ((k : Int) + 1)))) | (go_at_call 41; refine (may_yes 47 (by decide) H2).mono ?_; rintro e w3 ⟨rfl, H3, hb3⟩; have B3 := Kept.mk (B2.out.trans hb3); clear hb3) | (go_at_call 72; refine (flush_s p H3 (by omega) (by omega)).mono ?_; rintro e w4 ⟨rfl, H4, hb4⟩; have B4 := Kept.mk (B3.out.trans hb4); clear hb4))
            go_end0
            exact ⟨B4.out, by rw [HX.out]; exact ⟨rfl, H4⟩⟩
          · have hmore := V.eq
            rw [cont_mark hc] at hmore
            cases hma : Ppa.markF s.size g p d u st' with
            | none => rw [hma] at hmore; cases hmore
            | some om =>
              rw [hma] at hmore
              have CM := Kept.mk (fun (wx : World) (hx : Ps B b s st' u wx) => hM g (by omega) p d st' u wx om hx hmu htu (by omega) (by omega) hma)
              cases om with
              | error r2 =>
                have HX : Kept (o = .error r2) := ⟨by injection hmore with h2; exact h2.symm⟩
                clear hmore hma hbad
                by_cases hp : p < 0
                · clear hc
                  go_wp2_with (first | (go_at_call 77; refine (peek_v V.ps HP.out).mono ?_; rintro e w1 ⟨rfl, H1, hb1⟩; have B1 := Kept.mk (B0.out.trans hb1); clear hb1; obtain ⟨k, hk, c1⟩ := H1.at_; have f1 := H1.unf 1; have k0 : (0 : Int) ≤ (k : Int) := (by omega); have k1 : (k : Int) ≤ 65536 := (by omega); have H2 := H1.put (H1.suf_tail) (z := (k : Int) + 1) (by simp at hk ⊢; omega); have B2 := Kept.mk (B1.out.setCell (p := ⟨b, 1, none⟩) H1.le (.int .i64 ((k : Int) + 1)))) | (go_at_call 94; refine (waysS_no (CM.out _ H2) rfl).mono ?_; rintro e w3 ⟨rfl, hl3, hb3⟩; have B3 := Kept.mk (B2.out.trans hb3); clear hb3))
                  exact ⟨rfl, B3.out, by rw [HX.out]; exact ⟨rfl, hl3⟩⟩
                · have h47 : Kept (u.head? ≠ some 47) := ⟨fun e => hc ⟨by omega, e⟩⟩
                  have hp' : 0 ≤ p := by omega
                  clear hc
                  go_wp2_with (first | (go_at_call 77; refine (peek_v V.ps HP.out).mono ?_; rintro e w1 ⟨rfl, H1, hb1⟩; have B1 := Kept.mk (B0.out.trans hb1); clear hb1; obtain ⟨k, hk, c1⟩ := H1.at_; have f1 := H1.unf 1; have k0 : (0 : Int) ≤ (k : Int) := (by omega); have k1 : (k : Int) ≤ 65536 := (by omega); have H2 := H1.put (H1.suf_tail) (z := (k : Int) + 1) (by simp at hk ⊢; omega); have B2 := Kept.mk (B1.out.setCell (p := ⟨b, 1, none⟩) H1.le (.int .i64 ((k : Int) + 1)))) | (go_at_call 41; refine (may_not 47 (by decide) h47.out H2).mono ?_; rintro e w3 ⟨rfl, H3, hb3⟩; have B3 := Kept.mk (B2.out.trans hb3); clear hb3) | (go_at_call 94; refine (waysS_no (CM.out _ H3) rfl).mono ?_; rintro e w4 ⟨rfl, hl4, hb4⟩; have B4 := Kept.mk (B3.out.trans hb4); clear hb4))
                  exact ⟨rfl, B4.out, by rw [HX.out]; exact ⟨rfl, hl4⟩⟩
              | ok q2 =>
                obtain ⟨r2, st2⟩ := q2
                obtain ⟨a1, a2, a3⟩ := (Ppa.kc_all s.size g).mark p d u st' r2 st2 hma
                have a4 := a1.length_le
                have HE := Kept.mk hmore
                have HT := Kept.mk (a3 htu)
                have HM2 : Kept (Ppa.meas st2 r2 ≤ 300000) := ⟨by omega⟩
                clear hmore hma hbad a1 a2 a3
                by_cases hp : p < 0
                · clear hc
                  go_wp2_with (first | (go_at_call 77; refine (peek_v V.ps HP.out).mono ?_; rintro e w1 ⟨rfl, H1, hb1⟩; have B1 := Kept.mk (B0.out.trans hb1); clear hb1; obtain ⟨k, hk, c1⟩ := H1.at_; have f1 := H1.unf 1; have k0 : (0 : Int) ≤ (k : Int) := (by omega); have k1 : (k : Int) ≤ 65536 := (by omega); have H2 := H1.put (H1.suf_tail) (z := (k : Int) + 1) (by simp at hk ⊢; omega); have B2 := Kept.mk (B1.out.setCell (p := ⟨b, 1, none⟩) H1.le (.int .i64 ((k : Int) + 1)))) | (go_at_call 94; refine (waysS_ok (CM.out _ H2) rfl).mono ?_; rintro e w3 ⟨rfl, H3, hb3⟩; have B3 := Kept.mk (B2.out.trans hb3); clear hb3))
                  go_roundg g
                  case measure => omega
                  case rel => exact ⟨0, st2, r2, rfl, ⟨H3, HM2.out, HT.out, HE.out, by omega, by omega, by omega⟩, B3⟩
                · have h47 : Kept (u.head? ≠ some 47) := ⟨fun e => hc ⟨by omega, e⟩⟩
                  have hp' : 0 ≤ p := by omega
                  clear hc
                  go_wp2_with (first | (go_at_call 77; refine (peek_v V.ps HP.out).mono ?_; rintro e w1 ⟨rfl, H1, hb1⟩; have B1 := Kept.mk (B0.out.trans hb1); clear hb1; obtain ⟨k, hk, c1⟩ := H1.at_; have f1 := H1.unf 1; have k0 : (0 : Int) ≤ (k : Int) := (by omega); have k1 : (k : Int) ≤ 65536 := (by omega); have H2 := H1.put (H1.suf_tail) (z := (k : Int) + 1) (by simp at hk ⊢; omega); have B2 := Kept.mk (B1.out.setCell (p := ⟨b, 1, none⟩) H1.le (.int .i64 ((k : Int) + 1)))) | (go_at_call 41; refine (may_not 47 (by decide) h47.out H2).mono ?_; rintro e w3 ⟨rfl, H3, hb3⟩; have B3 := Kept.mk (B2.out.trans hb3); clear hb3) | (go_at_call 94; refine (waysS_ok (CM.out _ H3) rfl).mono ?_; rintro e w4 ⟨rfl, H4, hb4⟩; have B4 := Kept.mk (B3.out.trans hb4); clear hb4))
                  go_roundg g
                  case measure => omega
                  case rel => exact ⟨0, st2, r2, rfl, ⟨H4, HM2.out, HT.out, HE.out, by omega, by omega, by omega⟩, B4⟩
        · by_cases y38 : y = 38
          · subst y38
            have HP : Kept (Ppa.peek (38 :: u) = 38) := ⟨(peek_is 38 (by decide) _).2 rfl⟩
            have htu := Ppa.texts_low (by decide) V.tx
            have hmore := V.eq
            rw [cont_ref] at hmore
            clear hbad
            cases hre : Ppa.refM u with
            | error r2 =>
              rw [hre] at hmore
              have HX : Kept (o = .error r2) := ⟨by injection hmore with h2; exact h2.symm⟩
              have KR := Kept.mk hre
              clear hre hmore
              go_wp2_with (go_at_call 77; refine (peek_v V.ps HP.out).mono ?_; rintro e w1 ⟨rfl, H1, hb1⟩; have B1 := Kept.mk (B0.out.trans hb1); clear hb1; obtain ⟨k, hk, c1⟩ := H1.at_; have f1 := H1.unf 1; have k0 : (0 : Int) ≤ (k : Int) := (by omega); have k1 : (k : Int) ≤ 65536 := (by omega); have H2 := H1.put (H1.suf_tail) (z := (k : Int) + 1) (by simp at hk ⊢; omega); have B2 := Kept.mk (B1.out.setCell (p := ⟨b, 1, none⟩) H1.le (.int .i64 ((k : Int) + 1))))
              have H3 := H2.below (Below.refl _ _).drew
              have B3 := Kept.mk B2.out.drew
              go_region_dies
              all_goals
                go_at_call 96
                refine (ref_s_no H3 KR.out).mono ?_
                rintro e w4 ⟨rfl, hl4, hb4⟩
                exact ⟨rfl, B3.out.trans hb4, by rw [HX.out]; exact ⟨rfl, hl4⟩⟩
            | ok q2 =>
              obtain ⟨n, r2⟩ := q2
              rw [hre] at hmore
              have a1 := (Ppa.refM_suf hre).length_le
              have a2 := (refM_ok hre).2
              have a3 := Ppa.encode_le n
              have HE := Kept.mk hmore
              have HT := Kept.mk (refM_texts htu hre)
              have HM2 : Kept (Ppa.meas { st' with text := st'.text ++ Lib.encodeRune n } r2 ≤ 300000) := ⟨by unfold Ppa.meas at hmm ⊢; simp only [List.length_append, List.length_cons] at hmm ⊢; omega⟩
              have KR := Kept.mk hre
              clear hre hmore a3
              go_wp2_with (go_at_call 77; refine (peek_v V.ps HP.out).mono ?_; rintro e w1 ⟨rfl, H1, hb1⟩; have B1 := Kept.mk (B0.out.trans hb1); clear hb1; obtain ⟨k, hk, c1⟩ := H1.at_; have f1 := H1.unf 1; have k0 : (0 : Int) ≤ (k : Int) := (by omega); have k1 : (k : Int) ≤ 65536 := (by omega); have H2 := H1.put (H1.suf_tail) (z := (k : Int) + 1) (by simp at hk ⊢; omega); have B2 := Kept.mk (B1.out.setCell (p := ⟨b, 1, none⟩) H1.le (.int .i64 ((k : Int) + 1))))
              have H3 := H2.below (Below.refl _ _).drew
              have B3 := Kept.mk B2.out.drew
              go_region_law (first
                | (go_simp; go_at_call 96; refine (ref_s_ok H3 KR.out).mono ?_; rintro e w4 ⟨rfl, H4, hb4⟩; have B4 := Kept.mk (B3.out.trans hb4); clear hb4)
                | (go_simp; go_at_call 95; refine (rune_t (n : Int) (by omega) (by omega) H4 (by omega)).mono ?_; rintro e w5 ⟨⟨n5, rfl⟩, H5, hb5⟩; have B5 := Kept.mk (B4.out.trans hb5); clear hb5))
              all_goals
                go_wp2
                go_roundg g
                case measure => omega
                case rel => exact ⟨0, _, r2, rfl, ⟨H5, HM2.out, HT.out, HE.out, by omega, by omega, by omega⟩, B5⟩
          · by_cases y13 : y = 13
            · subst y13
              have HP : Kept (Ppa.peek (13 :: u) = 13) := ⟨(peek_is 13 (by decide) _).2 rfl⟩
              have htu := Ppa.texts_low (by decide) V.tx
              have hmore := V.eq
              rw [cont_cr] at hmore
              have a1 := (Ppa.nlL_suf u).length_le
              have HE := Kept.mk hmore
              have HT := Kept.mk (nl_texts htu)
              have HM2 : Kept (Ppa.meas { st' with text := st'.text ++ [10] } (Ppa.nlL u) ≤ 300000) := ⟨by unfold Ppa.meas at hmm ⊢; simp only [List.length_append, List.length_cons, List.length_nil] at hmm ⊢; omega⟩
              clear hbad hmore
              go_wp2_with (first | (go_at_call 77; refine (peek_v V.ps HP.out).mono ?_; rintro e w1 ⟨rfl, H1, hb1⟩; have B1 := Kept.mk (B0.out.trans hb1); clear hb1; obtain ⟨k, hk, c1⟩ := H1.at_; have f1 := H1.unf 1; have k0 : (0 : Int) ≤ (k : Int) := (by omega); have k1 : (k : Int) ≤ 65536 := (by omega); have H2 := H1.put (H1.suf_tail) (z := (k : Int) + 1) (by simp at hk ⊢; omega); have B2 := Kept.mk (B1.out.setCell (p := ⟨b, 1, none⟩) H1.le (.int .i64 ((k : Int) + 1)))) | (go_at_call 41; refine (may_nl H2).mono ?_; rintro e w3 ⟨⟨x3, rfl⟩, H3, hb3⟩; have B3 := Kept.mk (B2.out.trans hb3); clear hb3) | (go_at_call 97; refine (byte_t 10 H3 (by omega)).mono ?_; rintro e w4 ⟨rfl, H4, hb4⟩; have B4 := Kept.mk (B3.out.trans hb4); clear hb4))
              go_roundg g
              case measure => omega
              case rel => exact ⟨0, _, _, rfl, ⟨H4, HM2.out, HT.out, HE.out, by omega, by omega, by omega⟩, B4⟩
            · obtain ⟨g', hg', hE⟩ := cont_copy V.tx hbad y60 y38 y13 V.eq
              have hne : (y :: u) ≠ [] := by simp
              have htx := (Ppa.texts_step hne V.tx).2.2
              have hd1 := Lib.decodeL_width (y :: u)
              have hd2 := Lib.decodeL_le (y :: u) hne
              have hcl : (Lib.encodeRune (Ppa.peek (y :: u))).length = (Lib.decodeL (y :: u)).2 := by rw [peek_has hne, Ppa.char_bytes hne V.tx, List.length_take]; omega
              have hsl : (Ppa.skip (y :: u)).length = (y :: u).length - (Lib.decodeL (y :: u)).2 := by unfold Ppa.skip; exact List.length_drop
              have hlo := peek_lo (y :: u)
              have pm1 : ¬ Ppa.peek (y :: u) = -1 := by rw [peek_has hne]; omega
              simp only [List.length_cons] at hsl hd2
              have HM : Kept (Ppa.meas { st' with text := st'.text ++ Lib.encodeRune (Ppa.peek (y :: u)) } (Ppa.skip (y :: u)) ≤ 300000) := ⟨by unfold Ppa.meas at hmm ⊢; simp only [List.length_append, List.length_cons] at hmm ⊢; omega⟩
              have HT := Kept.mk htx
              have HE := Kept.mk hE
              have p60 : ¬ Ppa.peek (y :: u) = 60 := fun e => y60 (by have h2 := (peek_is 60 (by decide) (y :: u)).1 e; injection h2)
              have p38 : ¬ Ppa.peek (y :: u) = 38 := fun e => y38 (by have h2 := (peek_is 38 (by decide) (y :: u)).1 e; injection h2)
              have p13 : ¬ Ppa.peek (y :: u) = 13 := fun e => y13 (by have h2 := (peek_is 13 (by decide) (y :: u)).1 e; injection h2)
              generalize hS : Ppa.skip (y :: u) = S at hsl HM HT HE
              have HSK := Kept.mk hS
              generalize (Lib.decodeL (y :: u)).2 = D at hd1 hd2 hcl hsl
              clear hE htx hS hcl
              by_cases y93 : y = 93
              · subst y93
                have hp : Ppa.peek (93 :: u) = 93 := (peek_is 93 (by decide) _).2 rfl
                have HP := Kept.mk hp
                rw [hp, if_pos rfl] at HE
                rw [hp] at HM
                clear p60 p38 p13 pm1 hlo hp hbad y60 y38 y13
                have H0s := Kept.mk (V.ps)
                go_wp2_with (go_at_call 77; refine (peek_v V.ps HP.out).mono ?_; rintro e w1 ⟨rfl, H1, hb1⟩; have B1 := Kept.mk (B0.out.trans hb1); clear hb1)
                have H2 : Ps B b s st' (93 :: u) w1.drew := H1.below (Below.refl _ _).drew
                have B2 : Kept (Bel B b w w1.drew) := ⟨B1.out.drew⟩
                go_region_law (first
                  | (go_simp; go_at_call 78; refine (next_s H2 (by simp)).mono ?_; rintro e w3 ⟨rfl, H3, hb3⟩; rw [HP.out]; rw [HSK.out] at H3; have B3 := Kept.mk (B2.out.trans hb3); clear hb3)
                  | (go_simp; go_at_call 95; refine (rune_t 93 (by omega) (by omega) H3 (by omega)).mono ?_; rintro e w4 ⟨⟨n4, rfl⟩, H4, hb4⟩; have B4 := Kept.mk (B3.out.trans hb4); clear hb4))
                all_goals
                  go_wp2
                  go_roundg g'
                  case measure => omega
                  case rel => exact ⟨run + 1, _, S, by go_num, ⟨H4, HM.out, HT.out, HE.out, by omega, by omega, by omega⟩, B4⟩
              · rw [if_neg y93] at HE
                have p93 : ¬ Ppa.peek (y :: u) = 93 := fun e => y93 (by have h2 := (peek_is 93 (by decide) (y :: u)).1 e; injection h2)
                by_cases y62 : y = 62
                · subst y62
                  have hp : Ppa.peek (62 :: u) = 62 := (peek_is 62 (by decide) _).2 rfl
                  have HP := Kept.mk hp
                  have r2 : ¬ (2 : Int) ≤ (run : Int) := fun e => hbad ⟨rfl, by omega⟩
                  rw [hp] at HM HE
                  clear p60 p38 p13 p93 pm1 hlo hp hbad y60 y38 y13 y93
                  have H0s := Kept.mk (V.ps)
                  go_wp2_with (go_at_call 77; refine (peek_v V.ps HP.out).mono ?_; rintro e w1 ⟨rfl, H1, hb1⟩; have B1 := Kept.mk (B0.out.trans hb1); clear hb1)
                  have H2 : Ps B b s st' (62 :: u) w1.drew := H1.below (Below.refl _ _).drew
                  have B2 : Kept (Bel B b w w1.drew) := ⟨B1.out.drew⟩
                  go_region_law (first
                    | (go_simp; go_at_call 78; refine (next_s H2 (by simp)).mono ?_; rintro e w3 ⟨rfl, H3, hb3⟩; rw [HP.out]; rw [HSK.out] at H3; have B3 := Kept.mk (B2.out.trans hb3); clear hb3)
                    | (go_simp; go_at_call 95; refine (rune_t 62 (by omega) (by omega) H3 (by omega)).mono ?_; rintro e w4 ⟨⟨n4, rfl⟩, H4, hb4⟩; have B4 := Kept.mk (B3.out.trans hb4); clear hb4))
                  all_goals
                    go_wp2
                    go_roundg g'
                    case measure => omega
                    case rel => exact ⟨0, _, S, by go_num, ⟨H4, HM.out, HT.out, HE.out, by omega, by omega, by omega⟩, B4⟩
                · have p62 : ¬ Ppa.peek (y :: u) = 62 := fun e => y62 (by have h2 := (peek_is 62 (by decide) (y :: u)).1 e; injection h2)
                  obtain ⟨hlo, hhi⟩ := hlo
                  generalize hPP : Ppa.peek (y :: u) = X at *
                  have HP := Kept.mk hPP
                  have q60 : (X == 60) = false := by simpa using p60
                  have q38 : (X == 38) = false := by simpa using p38
                  have q13 : (X == 13) = false := by simpa using p13
                  have q62 : (X == 62) = false := by simpa using p62
                  have qm : (X == -1) = false := by simpa using pm1
                  have q93 : (X != 93) = true := by simpa using p93
                  clear hPP hbad y60 y38 y13 y93 y62
                  have H0s := Kept.mk (V.ps)
                  go_wp2_with (go_at_call 77; refine (peek_v V.ps HP.out).mono ?_; rintro e w1 ⟨rfl, H1, hb1⟩; have B1 := Kept.mk (B0.out.trans hb1); clear hb1)
                  have H2 : Ps B b s st' (y :: u) w1.drew := H1.below (Below.refl _ _).drew
                  have B2 : Kept (Bel B b w w1.drew) := ⟨B1.out.drew⟩
                  go_region_law (first
                    | (go_simp; go_at_call 78; refine (next_s H2 (by simp)).mono ?_; rintro e w3 ⟨rfl, H3, hb3⟩; rw [HP.out]; rw [HSK.out] at H3; have B3 := Kept.mk (B2.out.trans hb3); clear hb3)
                    | (go_simp; go_at_call 95; refine (rune_t X (by omega) (by omega) H3 (by omega)).mono ?_; rintro e w4 ⟨⟨n4, rfl⟩, H4, hb4⟩; have B4 := Kept.mk (B3.out.trans hb4); clear hb4))
                  all_goals
                    go_wp2
                    go_roundg g'
                    case measure => omega
                    case rel => exact ⟨0, _, S, by go_num, ⟨H4, HM.out, HT.out, HE.out, by omega, by omega, by omega⟩, B4⟩
end Go.Proofs.YtlemdhfekdiaeaaGreatDoor.Wps
