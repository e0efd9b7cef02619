/- The program's parser: an element. -/
import Derived.Test.YtlemdhfekdiaeaaGreatDoorParseW
import Derived.Deep.CutRange
import Derived.Deep.CutBlock
namespace Go.Proofs.YtlemdhfekdiaeaaGreatDoor.Wps
open Go Go.RowKit Go.Proofs.YtlemdhfekdiaeaaGreatDoor.Kb Go.Proofs.YtlemdhfekdiaeaaGreatDoor.Wch Go.Proofs.YtlemdhfekdiaeaaGreatDoor.Emk

/-- what a content is read as, at so much fuel -/
def ContC (B b : Nat) (s : ByteArray) (f : Nat) : Prop := ∀ (p : Int) (d : Nat) (st : Ppa.St) (r : Ppa.Bs) (w : World) (o : Except Ppa.Bs (Ppa.Bs × Ppa.St)), Ps B b s st r w → Ppa.meas st r ≤ 300000 → Pch.textsL r = true → -1 ≤ p → p ≤ 300000 → d + r.length ≤ 100000 → Ppa.contF s.size f p d 0 r st = some o →
  Calls Tryz.prog 58 #[.pointer (some ⟨b, 0, none⟩), .int .i64 p, .int .i64 (d : Int)] w fun e w' => WaysS B b s w (.tuple #[]) o e w'
/-- an element, behind its attributes -/
def tailM (N f : Nat) (nm : Ppa.Bs) (q d : Nat) : Except Ppa.Bs (Ppa.Bs × Ppa.St) → Option (Except Ppa.Bs (Ppa.Bs × Ppa.St))
  | .error r2 => some (.error r2)
  | .ok (r2, s2) => match r2 with
    | 47 :: t => some (match Ppa.mustL [62] t with | .ok r3 => .ok (r3, s2) | .error r3 => .error r3)
    | r2 => match Ppa.mustL [62] r2 with
      | .error r3 => some (.error r3)
      | .ok r3 => match Ppa.contF N f (q : Int) d 0 r3 s2 with
        | none => none
        | some (.error r4) => some (.error r4)
        | some (.ok (r4, s4)) => some (match Ppa.closeM nm r4 with | .error r6 => .error r6 | .ok r6 => .ok (r6, s4))
theorem tail_slash (N f : Nat) (nm : Ppa.Bs) (q d : Nat) (t : Ppa.Bs) (s2 : Ppa.St) : tailM N f nm q d (.ok (47 :: t, s2)) = some (match Ppa.mustL [62] t with | .ok r3 => .ok (r3, s2) | .error r3 => .error r3) := rfl
theorem tail_no {N f : Nat} {nm : Ppa.Bs} {q d : Nat} {r2 r3 : Ppa.Bs} {s2 : Ppa.St} (h47 : r2.head? ≠ some 47) (hm : Ppa.mustL [62] r2 = .error r3) : tailM N f nm q d (.ok (r2, s2)) = some (.error r3) := by
  unfold tailM
  dsimp only
  split
  · exact absurd rfl h47
  · rw [hm]
theorem tail_cont {N f : Nat} {nm : Ppa.Bs} {q d : Nat} {r2 r3 : Ppa.Bs} {s2 : Ppa.St} (h47 : r2.head? ≠ some 47) (hm : Ppa.mustL [62] r2 = .ok r3) : tailM N f nm q d (.ok (r2, s2)) = match Ppa.contF N f (q : Int) d 0 r3 s2 with
        | none => none
        | some (.error r4) => some (.error r4)
        | some (.ok (r4, s4)) => some (match Ppa.closeM nm r4 with | .error r6 => .error r6 | .ok r6 => .ok (r6, s4)) := by
  unfold tailM
  dsimp only
  split
  · exact absurd rfl h47
  · rw [hm]
theorem elemS_text (N : Nat) (p : Int) (d : Nat) (r nm : Ppa.Bs) (st : Ppa.St) : 0 < (Ppa.elemS N p d r nm st).nodes.length := by
  unfold Ppa.elemS Ppa.add
  simp
theorem pred_lt {n : Nat} (h : 0 < n) : n.pred < n := Nat.pred_lt (by omega)
theorem blankC_ne {y : UInt8} (h : Pch.blankC y = true) (c : UInt8) (hc : Pch.blankC c = false) : y ≠ c := fun e => by rw [e, hc] at h; cases h
theorem attrs_stop {N q f : Nat} {r : Ppa.Bs} {st : Ppa.St} (h : blankH r = false) : Ppa.attrsF N q (f + 1) r st = some (.ok (r, st)) := by
  cases r with
  | nil => rw [Ppa.attrsF]
  | cons x t =>
    rw [Ppa.attrsF, if_neg (by rw [show Pch.blankC x = blankH (x :: t) from rfl, h]; decide)]
theorem attrs_end {N q f : Nat} {r u : Ppa.Bs} {c : UInt8} {st : Ppa.St} (h : blankH r = true) (hu : Ppa.blanksL r = c :: u) (hc : c = 47 ∨ c = 62) : Ppa.attrsF N q (f + 1) r st = some (.ok (c :: u, st)) := by
  cases r with
  | nil => cases h
  | cons x t =>
    rw [Ppa.attrsF, if_pos (show Pch.blankC x = true from h), hu]
    rcases hc with rfl | rfl <;> rfl
theorem attrs_more {N q f : Nat} {r : Ppa.Bs} {st : Ppa.St} (h : blankH r = true) (h1 : (Ppa.blanksL r).head? ≠ some 47) (h2 : (Ppa.blanksL r).head? ≠ some 62) : Ppa.attrsF N q (f + 1) r st = match Ppa.attrM N q (Ppa.blanksL r) st with | .ok (r', s') => Ppa.attrsF N q f r' s' | .error r' => some (.error r') := by
  cases r with
  | nil => cases h
  | cons x t =>
    rw [Ppa.attrsF, if_pos (show Pch.blankC x = true from h)]
    generalize Ppa.blanksL (x :: t) = z at h1 h2
    split
    · exact absurd rfl h1
    · exact absurd rfl h2
    · rfl
theorem blanks_shorter {r : Ppa.Bs} (h : blankH r = true) : (Ppa.blanksL r).length < r.length := by
  cases r with
  | nil => cases h
  | cons x t =>
    rw [blanksL_of_true h]
    have := (Ppa.blanksL_suf t).length_le
    simp only [List.length_cons]
    omega
/-- where an element's attributes stand -/
structure At_ (B b : Nat) (s : ByteArray) (q : Nat) (L : Nat) (oA : Except Ppa.Bs (Ppa.Bs × Ppa.St)) (g : Nat) (st : Ppa.St) (r : Ppa.Bs) (w : World) : Prop where
  ps : Ps B b s st r w
  m : Ppa.meas st r ≤ 300000
  tx : Pch.textsL r = true
  eq : Ppa.attrsF s.size q g r st = some oA
  node : q < st.nodes.length
  len : r.length ≤ L
theorem waysS_ok {B b f : Nat} {s : ByteArray} {w : World} {args : Array Value} {v : Value} {o : Except Ppa.Bs (Ppa.Bs × Ppa.St)} {st : Ppa.St} {r : Ppa.Bs} (h : Calls Tryz.prog f args w fun e w' => WaysS B b s w v o e w') (ho : o = .ok (r, st)) :
    Calls Tryz.prog f args w fun e w' => e = .returned v ∧ Ps B b s st r w' ∧ Bel B b w w' := by
  subst ho
  exact h.mono fun _ _ ⟨hb, he, hp⟩ => ⟨he, hp, hb⟩
theorem waysS_no {B b f : Nat} {s : ByteArray} {w : World} {args : Array Value} {v : Value} {o : Except Ppa.Bs (Ppa.Bs × Ppa.St)} {r : Ppa.Bs} (h : Calls Tryz.prog f args w fun e w' => WaysS B b s w v o e w') (ho : o = .error r) :
    Calls Tryz.prog f args w fun e w' => Gone (s.size - r.length) e ∧ r.length ≤ s.size ∧ Bel B b w w' := by
  subst ho
  exact h.mono fun _ _ ⟨hb, he, hp⟩ => ⟨he, hp, hb⟩
set_option maxRecDepth 100000 in
set_option maxHeartbeats 4000000 in
theorem element_a {B b f d : Nat} {s : ByteArray} {st : Ppa.St} {r r1 nm : Ppa.Bs} {w : World} (p : Int) (hC : ContC B b s f) (h : Ps B b s st r w) (hm : Ppa.meas st r ≤ 300000) (ht : Pch.textsL r = true) (hd : d + r.length ≤ 100000) (h1 : Ppa.nameM r = .ok (nm, r1)) {oA o : Except Ppa.Bs (Ppa.Bs × Ppa.St)} (ha : Ppa.attrsF s.size (Ppa.elemS s.size p d r nm st).nodes.length.pred (f + 1) r1 (Ppa.elemS s.size p d r nm st) = some oA) (ho : tailM s.size f nm (Ppa.elemS s.size p d r nm st).nodes.length.pred d oA = some o) (hr : 1 ≤ s.size - r.length)
    (hA : ¬ 60 < d) :
    Calls Tryz.prog 45 #[.pointer (some ⟨b, 0, none⟩), .int .i64 p, .int .i64 (d : Int)] w fun e w' => WaysS B b s w (.tuple #[]) o e w' := by
  have B0 : Kept (Bel B b w w) := ⟨Bel.refl _ _ _⟩
  have hsm := h.small
  have hlen := h.len
  obtain ⟨k, hk, c1⟩ := h.at_
  have t1 := (Ppa.nameM_ok h1).2.2 ht
  have l1 := Ppa.nameM_lt h1
  have m1 := meas_small (Ppa.nameM_suf h1) hm
  have hS : Ppa.elemS s.size p d r nm st = Ppa.add st (2, nm, [], p) := by
    unfold Ppa.elemS
    rw [if_neg (fun h => hA h.1)]
  have hpos := elemS_text s.size p d r nm st
  have hms := Ppa.elemS_meas s.size p d r nm st r1
  have hm2 := Ppa.meas_lt (s := st) (r := r) (r' := r1) (k := 1) (by omega)
  have hq : (Ppa.elemS s.size p d r nm st).nodes.length.pred = (Ppa.flush st p).nodes.length := by rw [hS, add_other (by decide)]; simp
  rw [hq] at ha ho
  rw [hS] at ha hpos hms hq
  have hsz : (Ppa.add st (2, nm, [], p)).nodes.length = (Ppa.flush st p).nodes.length + 1 := by rw [add_other (by decide)]; simp
  generalize hQ : (Ppa.flush st p).nodes.length = q at ha ho hsz
  have K1 := Kept.mk h1
  have KA := Kept.mk ha
  have KO := Kept.mk ho
  have KT := Kept.mk t1
  have KQ := Kept.mk hQ
  have KS := Kept.mk hsz
  have KM2 : Kept (Ppa.meas (Ppa.add st (2, nm, [], p)) r1 ≤ 300000) := ⟨by omega⟩
  have KM : Kept (Ppa.meas (Ppa.add st (2, nm, [], p)) r1 ≤ 300000) := ⟨by omega⟩
  have i0 : (1 : Int) ≤ (k : Int) := by omega
  have i1 : (k : Int) ≤ 65536 := by omega
  have i2 : ¬ (60 : Int) < (d : Int) := by omega
  have TG0 : Kept True := ⟨trivial⟩
  have TG1 : Kept True := ⟨trivial⟩
  clear h1 ha ho t1 hQ hS hsz hms hm2 hpos hq
  go_enter Tryz.func45, Tryz.ntmps45
  go_upto_block 0 with (first
    | (go_at_call 79; refine (name_s_ok h K1.out).mono ?_; rintro e w1 ⟨rfl, H1, hb1⟩; have B1 := Kept.mk (B0.out.trans hb1); clear hb1)
    | (go_at_call 35; refine (add_t 2 (by decide) nm [] p H1 m1).mono ?_; rintro e w2 ⟨rfl, H2, hb2⟩; rw [KQ.out]; have B2 := Kept.mk (B1.out.trans hb2); clear hb2))
  go_cut [9] from 35 to 49 (fun _ wx => ∃ r2 st2, Kept (oA = .ok (r2, st2)) ∧ Ps B b s st2 r2 wx ∧ Kept (Bel B b w wx) ∧ Kept (Ppa.meas st2 r2 ≤ 300000) ∧ Kept (Pch.textsL r2 = true) ∧ r2.length ≤ r1.length)
  case first =>
    go_wp2_with fail
    go_loopg [9] (f + 1) (fun g _ wx => ∃ r' st', At_ B b s q r1.length oA g st' r' wx ∧ Kept (Bel B b w wx))
    case atStart => exact ⟨r1, _, ⟨H2, KM.out, KT.out, KA.out, by rw [KS.out]; omega, Nat.le_refl _⟩, B2⟩
    case round =>
      obtain ⟨r', st', V, BW⟩ := hrel
      obtain ⟨g, rfl⟩ : ∃ g, gk = g + 1 := by
        cases gk with
        | zero => have h2 := V.eq; rw [Ppa.attrsF] at h2; cases h2
        | succ g => exact ⟨g, rfl⟩
      clear H1 H2 K1 KA KT KM
      cases hb : blankH r' with
      | false =>
        have HX : Kept (oA = .ok (r', st')) := ⟨by have h2 := V.eq; rw [attrs_stop hb] at h2; injection h2 with h2; exact h2.symm⟩
        have KB := Kept.mk hb
        clear hb
        go_wp2_with (go_at_call 76; refine (blank_t V.ps KB.out).mono ?_; rintro e w3 ⟨rfl, H3, hb3⟩; have B3 := Kept.mk (BW.out.trans hb3); clear hb3)
        go_meet
        case rel => exact ⟨r', st', HX, H3, B3, ⟨V.m⟩, ⟨V.tx⟩, V.len⟩
      | true =>
        have KB := Kept.mk hb
        have hz := blanks_shorter hb
        have htx := Ppa.blanksL_texts V.tx
        have hme := meas_small (Ppa.blanksL_suf r') V.m
        by_cases h47 : (Ppa.blanksL r').head? = some 47
        · obtain ⟨u, hu⟩ := head_cons h47
          have HX : Kept (oA = .ok (47 :: u, st')) := ⟨by have h2 := V.eq; rw [attrs_end hb hu (.inl rfl)] at h2; injection h2 with h2; exact h2.symm⟩
          have HP : Kept (Ppa.peek (Ppa.blanksL r') = 47) := ⟨(peek_is 47 (by decide) _).2 h47⟩
          have HU := Kept.mk hu
          have HT := Kept.mk htx
          have HM := Kept.mk hme
          clear hb hu h47 htx hme
          go_wp2_with (first | (go_at_call 76; refine (blank_t V.ps KB.out).mono ?_; rintro e w3 ⟨rfl, H3, hb3⟩; have B3 := Kept.mk (BW.out.trans hb3); clear hb3) | (go_at_call 39; refine (blanks_s H3).mono ?_; rintro e w4 ⟨rfl, H4, hb4⟩; have B4 := Kept.mk (B3.out.trans hb4); clear hb4) | (go_at_call 77; refine (peek_v H4 HP.out).mono ?_; rintro e w5 ⟨rfl, H5, hb5⟩; have B5 := Kept.mk (B4.out.trans hb5); clear hb5))
          go_meet
          case rel => exact ⟨47 :: u, st', HX, by rw [← HU.out]; exact H5, B5, by rw [← HU.out]; exact HM, by rw [← HU.out]; exact HT, by rw [← HU.out]; have := V.len; omega⟩
        · by_cases h62 : (Ppa.blanksL r').head? = some 62
          · obtain ⟨u, hu⟩ := head_cons h62
            have HX : Kept (oA = .ok (62 :: u, st')) := ⟨by have h2 := V.eq; rw [attrs_end hb hu (.inr rfl)] at h2; injection h2 with h2; exact h2.symm⟩
            have HP : Kept (Ppa.peek (Ppa.blanksL r') = 62) := ⟨(peek_is 62 (by decide) _).2 h62⟩
            have HU := Kept.mk hu
            have HT := Kept.mk htx
            have HM := Kept.mk hme
            clear hb hu h47 h62 htx hme
            go_wp2_with (first | (go_at_call 76; refine (blank_t V.ps KB.out).mono ?_; rintro e w3 ⟨rfl, H3, hb3⟩; have B3 := Kept.mk (BW.out.trans hb3); clear hb3) | (go_at_call 39; refine (blanks_s H3).mono ?_; rintro e w4 ⟨rfl, H4, hb4⟩; have B4 := Kept.mk (B3.out.trans hb4); clear hb4) | (go_at_call 77; refine (peek_v H4 HP.out).mono ?_; rintro e w5 ⟨rfl, H5, hb5⟩; have B5 := Kept.mk (B4.out.trans hb5); clear hb5))
            go_meet
            case rel => exact ⟨62 :: u, st', HX, by rw [← HU.out]; exact H5, B5, by rw [← HU.out]; exact HM, by rw [← HU.out]; exact HT, by rw [← HU.out]; have := V.len; omega⟩
          · have hmore := V.eq
            rw [attrs_more hb h47 h62] at hmore
            have p47 : ¬ Ppa.peek (Ppa.blanksL r') = 47 := fun e => h47 ((peek_is 47 (by decide) _).1 e)
            have p62 : ¬ Ppa.peek (Ppa.blanksL r') = 62 := fun e => h62 ((peek_is 62 (by decide) _).1 e)
            have q62 : (Ppa.peek (Ppa.blanksL r') == 62) = false := by simpa using p62
            have q47 : (Ppa.peek (Ppa.blanksL r') == 47) = false := by simpa using p47
            have hN := V.node
            have hvl := V.len
            have HT := Kept.mk htx
            have HM := Kept.mk hme
            clear h47 h62 hb htx hme
            cases hat : Ppa.attrM s.size q (Ppa.blanksL r') st' with
            | error r2 =>
              rw [hat] at hmore
              have HX : Kept (o = .error r2) := ⟨by injection hmore with h2; have h3 := KO.out; rw [← h2] at h3; unfold tailM at h3; injection h3 with h3; exact h3.symm⟩
              have KAT := Kept.mk hat
              clear hat hmore
              go_wp2_with (first | (go_at_call 76; refine (blank_t V.ps KB.out).mono ?_; rintro e w3 ⟨rfl, H3, hb3⟩; have B3 := Kept.mk (BW.out.trans hb3); clear hb3) | (go_at_call 39; refine (blanks_s H3).mono ?_; rintro e w4 ⟨rfl, H4, hb4⟩; have B4 := Kept.mk (B3.out.trans hb4); clear hb4) | (go_at_call 77; refine (peek_t H4).mono ?_; rintro e w5 ⟨rfl, H5, hb5⟩; have B5 := Kept.mk (B4.out.trans hb5); clear hb5) | (go_at_call 83; refine (waysS_no (attribute_s H5 HM.out HT.out hN) KAT.out).mono ?_; rintro e w6 ⟨rfl, hl6, hb6⟩; have B6 := Kept.mk (B5.out.trans hb6); clear hb6))
              exact ⟨rfl, B6.out, by rw [HX.out]; exact ⟨rfl, hl6⟩⟩
            | ok q2 =>
              obtain ⟨r2, st2⟩ := q2
              rw [hat] at hmore
              obtain ⟨a1, a2, a3, _, a5⟩ := Ppa.attrM_ok hat
              have a6 := a1.length_le
              have HE := Kept.mk hmore
              have HT2 := Kept.mk (a3 HT.out)
              have HM2 : Kept (Ppa.meas st2 r2 ≤ 300000) := ⟨by have := HM.out; omega⟩
              have KAT := Kept.mk hat
              clear hat hmore a1 a2 a3
              go_wp2_with (first | (go_at_call 76; refine (blank_t V.ps KB.out).mono ?_; rintro e w3 ⟨rfl, H3, hb3⟩; have B3 := Kept.mk (BW.out.trans hb3); clear hb3) | (go_at_call 39; refine (blanks_s H3).mono ?_; rintro e w4 ⟨rfl, H4, hb4⟩; have B4 := Kept.mk (B3.out.trans hb4); clear hb4) | (go_at_call 77; refine (peek_t H4).mono ?_; rintro e w5 ⟨rfl, H5, hb5⟩; have B5 := Kept.mk (B4.out.trans hb5); clear hb5) | (go_at_call 83; refine (waysS_ok (attribute_s H5 HM.out HT.out hN) KAT.out).mono ?_; rintro e w6 ⟨rfl, H6, hb6⟩; have B6 := Kept.mk (B5.out.trans hb6); clear hb6))
              go_roundg g
              case measure => omega
              case rel => exact ⟨r2, st2, ⟨H6, HM2.out, HT2.out, HE.out, by omega, by omega⟩, B6⟩
  case rest =>
    obtain ⟨r2, st2, HX, H3, B3, HM, HT, hl2⟩ := hcut
    have hto := KO.out
    rw [HX.out] at hto
    clear H1 H2 K1 KA KT KM KO
    by_cases h47 : r2.head? = some 47
    · obtain ⟨u, rfl⟩ := head_cons h47
      rw [tail_slash] at hto
      clear h47
      cases hmu : Ppa.mustL [62] u with
      | error r3 =>
        rw [hmu] at hto
        have HO : Kept (o = .error r3) := ⟨by injection hto with hto; exact hto.symm⟩
        have KU := Kept.mk hmu
        clear hmu hto
        go_wp2_with (first | (go_at_call 41; refine (may_yes 47 (by decide) H3).mono ?_; rintro e w4 ⟨rfl, H4, hb4⟩; have B4 := Kept.mk (B3.out.trans hb4); clear hb4) | (go_at_call 40; refine (must_s_no [62] (by decide) H4 KU.out).mono ?_; rintro e w5 ⟨rfl, hl5, hb5⟩; have B5 := Kept.mk (B4.out.trans hb5); clear hb5))
        exact ⟨rfl, B5.out, by rw [HO.out]; exact ⟨rfl, hl5⟩⟩
      | ok r3 =>
        rw [hmu] at hto
        have HO : Kept (o = .ok (r3, st2)) := ⟨by injection hto with hto; exact hto.symm⟩
        have KU := Kept.mk hmu
        clear hmu hto
        go_wp2_with (first | (go_at_call 41; refine (may_yes 47 (by decide) H3).mono ?_; rintro e w4 ⟨rfl, H4, hb4⟩; have B4 := Kept.mk (B3.out.trans hb4); clear hb4) | (go_at_call 40; refine (must_s_ok [62] (by decide) H4 KU.out).mono ?_; rintro e w5 ⟨rfl, H5, hb5⟩; have B5 := Kept.mk (B4.out.trans hb5); clear hb5))
        go_end0
        exact ⟨B5.out, by rw [HO.out]; exact ⟨rfl, H5⟩⟩
    · cases hmu : Ppa.mustL [62] r2 with
      | error r3 =>
        rw [tail_no h47 hmu] at hto
        have HO : Kept (o = .error r3) := ⟨by injection hto with hto; exact hto.symm⟩
        have KU := Kept.mk hmu
        have K47 := Kept.mk h47
        clear hmu hto h47
        go_wp2_with (first | (go_at_call 41; refine (may_not 47 (by decide) K47.out H3).mono ?_; rintro e w4 ⟨rfl, H4, hb4⟩; have B4 := Kept.mk (B3.out.trans hb4); clear hb4) | (go_at_call 40; refine (must_s_no [62] (by decide) H4 KU.out).mono ?_; rintro e w5 ⟨rfl, hl5, hb5⟩; have B5 := Kept.mk (B4.out.trans hb5); clear hb5))
        exact ⟨rfl, B5.out, by rw [HO.out]; exact ⟨rfl, hl5⟩⟩
      | ok r3 =>
        rw [tail_cont h47 hmu] at hto
        have l3 := (Ppa.mustL_suf hmu).length_le
        have m3 := meas_small (Ppa.mustL_suf hmu) HM.out
        have t3 := mustL_texts _ _ _ (by decide) HT.out hmu
        have KU := Kept.mk hmu
        have K47 := Kept.mk h47
        have hq9 : (q : Int) ≤ 300000 := by have h2 := KS.out; have h3 := KM2.out; unfold Ppa.meas at h3; omega
        cases hco : Ppa.contF s.size f (q : Int) d 0 r3 st2 with
        | none => rw [hco] at hto; cases hto
        | some oc =>
          have CC := Kept.mk (fun (wx : World) (hx : Ps B b s st2 r3 wx) => hC (q : Int) d st2 r3 wx oc hx m3 t3 (by omega) hq9 (by omega) hco)
          rw [hco] at hto
          clear hmu h47 hco m3 t3 hC
          cases oc with
          | error r4 =>
            have HO : Kept (o = .error r4) := ⟨by injection hto with hto; exact hto.symm⟩
            clear hto
            go_wp2_with (first | (go_at_call 41; refine (may_not 47 (by decide) K47.out H3).mono ?_; rintro e w4 ⟨rfl, H4, hb4⟩; have B4 := Kept.mk (B3.out.trans hb4); clear hb4) | (go_at_call 40; refine (must_s_ok [62] (by decide) H4 KU.out).mono ?_; rintro e w5 ⟨rfl, H5, hb5⟩; have B5 := Kept.mk (B4.out.trans hb5); clear hb5) | (go_at_call 58; refine (waysS_no (CC.out _ H5) rfl).mono ?_; rintro e w6 ⟨rfl, hl6, hb6⟩; have B6 := Kept.mk (B5.out.trans hb6); clear hb6))
            exact ⟨rfl, B6.out, by rw [HO.out]; exact ⟨rfl, hl6⟩⟩
          | ok q4 =>
            obtain ⟨r4, st4⟩ := q4
            dsimp only at hto
            unfold Ppa.closeM at hto
            cases hag : Ppa.againL nm r4 with
            | error r5 =>
              rw [hag] at hto
              have HO : Kept (o = .error r5) := ⟨by injection hto with hto; exact hto.symm⟩
              have KG := Kept.mk hag
              clear hto hag
              go_wp2_with (first | (go_at_call 41; refine (may_not 47 (by decide) K47.out H3).mono ?_; rintro e w4 ⟨rfl, H4, hb4⟩; have B4 := Kept.mk (B3.out.trans hb4); clear hb4) | (go_at_call 40; clear TG0; refine (must_s_ok [62] (by decide) H4 KU.out).mono ?_; rintro e w5 ⟨rfl, H5, hb5⟩; have B5 := Kept.mk (B4.out.trans hb5); clear hb5) | (go_at_call 58; refine (waysS_ok (CC.out _ H5) rfl).mono ?_; rintro e w6 ⟨rfl, H6, hb6⟩; have B6 := Kept.mk (B5.out.trans hb6); clear hb6) | (go_at_call 40; refine (again_s_no H6 KG.out).mono ?_; rintro e w7 ⟨rfl, hl7, hb7⟩; have B7 := Kept.mk (B6.out.trans hb7); clear hb7))
              exact ⟨rfl, B7.out, by rw [HO.out]; exact ⟨rfl, hl7⟩⟩
            | ok r5 =>
              rw [hag] at hto
              dsimp only at hto
              have KG := Kept.mk hag
              clear hag
              cases hme : Ppa.mustL [62] (Ppa.blanksL r5) with
              | error r6 =>
                rw [hme] at hto
                have HO : Kept (o = .error r6) := ⟨by injection hto with hto; exact hto.symm⟩
                have KE := Kept.mk hme
                clear hto hme
                go_wp2_with (first | (go_at_call 41; refine (may_not 47 (by decide) K47.out H3).mono ?_; rintro e w4 ⟨rfl, H4, hb4⟩; have B4 := Kept.mk (B3.out.trans hb4); clear hb4) | (go_at_call 40; clear TG0; refine (must_s_ok [62] (by decide) H4 KU.out).mono ?_; rintro e w5 ⟨rfl, H5, hb5⟩; have B5 := Kept.mk (B4.out.trans hb5); clear hb5) | (go_at_call 58; refine (waysS_ok (CC.out _ H5) rfl).mono ?_; rintro e w6 ⟨rfl, H6, hb6⟩; have B6 := Kept.mk (B5.out.trans hb6); clear hb6) | (go_at_call 40; clear TG1; refine (again_s_ok H6 KG.out).mono ?_; rintro e w7 ⟨rfl, H7, hb7⟩; have B7 := Kept.mk (B6.out.trans hb7); clear hb7) | (go_at_call 39; refine (blanks_s H7).mono ?_; rintro e w8 ⟨rfl, H8, hb8⟩; have B8 := Kept.mk (B7.out.trans hb8); clear hb8) | (go_at_call 40; refine (must_s_no [62] (by decide) H8 KE.out).mono ?_; rintro e w9 ⟨rfl, hl9, hb9⟩; have B9 := Kept.mk (B8.out.trans hb9); clear hb9))
                exact ⟨rfl, B9.out, by rw [HO.out]; exact ⟨rfl, hl9⟩⟩
              | ok r6 =>
                rw [hme] at hto
                have HO : Kept (o = .ok (r6, st4)) := ⟨by injection hto with hto; exact hto.symm⟩
                have KE := Kept.mk hme
                clear hto hme
                go_wp2_with (first | (go_at_call 41; refine (may_not 47 (by decide) K47.out H3).mono ?_; rintro e w4 ⟨rfl, H4, hb4⟩; have B4 := Kept.mk (B3.out.trans hb4); clear hb4) | (go_at_call 40; clear TG0; refine (must_s_ok [62] (by decide) H4 KU.out).mono ?_; rintro e w5 ⟨rfl, H5, hb5⟩; have B5 := Kept.mk (B4.out.trans hb5); clear hb5) | (go_at_call 58; refine (waysS_ok (CC.out _ H5) rfl).mono ?_; rintro e w6 ⟨rfl, H6, hb6⟩; have B6 := Kept.mk (B5.out.trans hb6); clear hb6) | (go_at_call 40; clear TG1; refine (again_s_ok H6 KG.out).mono ?_; rintro e w7 ⟨rfl, H7, hb7⟩; have B7 := Kept.mk (B6.out.trans hb7); clear hb7) | (go_at_call 39; refine (blanks_s H7).mono ?_; rintro e w8 ⟨rfl, H8, hb8⟩; have B8 := Kept.mk (B7.out.trans hb8); clear hb8) | (go_at_call 40; refine (must_s_ok [62] (by decide) H8 KE.out).mono ?_; rintro e w9 ⟨rfl, H9, hb9⟩; have B9 := Kept.mk (B8.out.trans hb9); clear hb9))
                go_end0
                exact ⟨B9.out, by rw [HO.out]; exact ⟨rfl, H9⟩⟩
set_option maxRecDepth 100000 in
set_option maxHeartbeats 4000000 in
theorem element_b {B b f d : Nat} {s : ByteArray} {st : Ppa.St} {r r1 nm : Ppa.Bs} {w : World} (p : Int) (hC : ContC B b s f) (h : Ps B b s st r w) (hm : Ppa.meas st r ≤ 300000) (ht : Pch.textsL r = true) (hd : d + r.length ≤ 100000) (h1 : Ppa.nameM r = .ok (nm, r1)) {oA o : Except Ppa.Bs (Ppa.Bs × Ppa.St)} (ha : Ppa.attrsF s.size (Ppa.elemS s.size p d r nm st).nodes.length.pred (f + 1) r1 (Ppa.elemS s.size p d r nm st) = some oA) (ho : tailM s.size f nm (Ppa.elemS s.size p d r nm st).nodes.length.pred d oA = some o) (hr : 1 ≤ s.size - r.length)
    (hA : 60 < d) (hA2 : st.deep < 0) :
    Calls Tryz.prog 45 #[.pointer (some ⟨b, 0, none⟩), .int .i64 p, .int .i64 (d : Int)] w fun e w' => WaysS B b s w (.tuple #[]) o e w' := by
  have B0 : Kept (Bel B b w w) := ⟨Bel.refl _ _ _⟩
  have hsm := h.small
  have hlen := h.len
  obtain ⟨k, hk, c1⟩ := h.at_
  have t1 := (Ppa.nameM_ok h1).2.2 ht
  have l1 := Ppa.nameM_lt h1
  have m1 := meas_small (Ppa.nameM_suf h1) hm
  have hk1 : (s.size : Int) - r.length - 1 = (k : Int) - 1 := by omega
  have hS : Ppa.elemS s.size p d r nm st = Ppa.add { st with deep := (k : Int) - 1 } (2, nm, [], p) := by
    unfold Ppa.elemS
    rw [if_pos ⟨hA, hA2⟩, hk1]
  have hpos := elemS_text s.size p d r nm st
  have hms := Ppa.elemS_meas s.size p d r nm st r1
  have hm2 := Ppa.meas_lt (s := st) (r := r) (r' := r1) (k := 1) (by omega)
  have hq : (Ppa.elemS s.size p d r nm st).nodes.length.pred = (Ppa.flush { st with deep := (k : Int) - 1 } p).nodes.length := by rw [hS, add_other (by decide)]; simp
  rw [hq] at ha ho
  rw [hS] at ha hpos hms hq
  have hsz : (Ppa.add { st with deep := (k : Int) - 1 } (2, nm, [], p)).nodes.length = (Ppa.flush { st with deep := (k : Int) - 1 } p).nodes.length + 1 := by rw [add_other (by decide)]; simp
  generalize hQ : (Ppa.flush { st with deep := (k : Int) - 1 } p).nodes.length = q at ha ho hsz
  have K1 := Kept.mk h1
  have KA := Kept.mk ha
  have KO := Kept.mk ho
  have KT := Kept.mk t1
  have KQ := Kept.mk hQ
  have KS := Kept.mk hsz
  have KM2 : Kept (Ppa.meas (Ppa.add { st with deep := (k : Int) - 1 } (2, nm, [], p)) r1 ≤ 300000) := ⟨by omega⟩
  have KM : Kept (Ppa.meas (Ppa.add { st with deep := (k : Int) - 1 } (2, nm, [], p)) r1 ≤ 300000) := ⟨by omega⟩
  have i0 : (1 : Int) ≤ (k : Int) := by omega
  have i1 : (k : Int) ≤ 65536 := by omega
  have i2 : (60 : Int) < (d : Int) := by omega
  have TG0 : Kept True := ⟨trivial⟩
  have TG1 : Kept True := ⟨trivial⟩
  clear h1 ha ho t1 hQ hS hsz hms hm2 hpos hq
  go_enter Tryz.func45, Tryz.ntmps45
  go_upto_block 0 with (first
    | (go_at_call 79; refine (name_s_ok h K1.out).mono ?_; rintro e w1 ⟨rfl, H1, hb1⟩; have B1 := Kept.mk (B0.out.trans hb1); clear hb1; have c6 := H1.c6; have f6 := H1.unf 6; have H1d := H1.deep ((k : Int) - 1); have B1d := Kept.mk (B1.out.setCell (p := ⟨b, 6, none⟩) H1.le (.int .i64 ((k : Int) - 1))))
    | (go_at_call 35; refine (add_t 2 (by decide) nm [] p H1d m1).mono ?_; rintro e w2 ⟨rfl, H2, hb2⟩; rw [KQ.out]; have B2 := Kept.mk (B1d.out.trans hb2); clear hb2))
  go_cut [9] from 35 to 49 (fun _ wx => ∃ r2 st2, Kept (oA = .ok (r2, st2)) ∧ Ps B b s st2 r2 wx ∧ Kept (Bel B b w wx) ∧ Kept (Ppa.meas st2 r2 ≤ 300000) ∧ Kept (Pch.textsL r2 = true) ∧ r2.length ≤ r1.length)
  case first =>
    go_wp2_with fail
    go_loopg [9] (f + 1) (fun g _ wx => ∃ r' st', At_ B b s q r1.length oA g st' r' wx ∧ Kept (Bel B b w wx))
    case atStart => exact ⟨r1, _, ⟨H2, KM.out, KT.out, KA.out, by rw [KS.out]; omega, Nat.le_refl _⟩, B2⟩
    case round =>
      obtain ⟨r', st', V, BW⟩ := hrel
      obtain ⟨g, rfl⟩ : ∃ g, gk = g + 1 := by
        cases gk with
        | zero => have h2 := V.eq; rw [Ppa.attrsF] at h2; cases h2
        | succ g => exact ⟨g, rfl⟩
      clear H1 H2 K1 KA KT KM
      cases hb : blankH r' with
      | false =>
        have HX : Kept (oA = .ok (r', st')) := ⟨by have h2 := V.eq; rw [attrs_stop hb] at h2; injection h2 with h2; exact h2.symm⟩
        have KB := Kept.mk hb
        clear hb
        go_wp2_with (go_at_call 76; refine (blank_t V.ps KB.out).mono ?_; rintro e w3 ⟨rfl, H3, hb3⟩; have B3 := Kept.mk (BW.out.trans hb3); clear hb3)
        go_meet
        case rel => exact ⟨r', st', HX, H3, B3, ⟨V.m⟩, ⟨V.tx⟩, V.len⟩
      | true =>
        have KB := Kept.mk hb
        have hz := blanks_shorter hb
        have htx := Ppa.blanksL_texts V.tx
        have hme := meas_small (Ppa.blanksL_suf r') V.m
        by_cases h47 : (Ppa.blanksL r').head? = some 47
        · obtain ⟨u, hu⟩ := head_cons h47
          have HX : Kept (oA = .ok (47 :: u, st')) := ⟨by have h2 := V.eq; rw [attrs_end hb hu (.inl rfl)] at h2; injection h2 with h2; exact h2.symm⟩
          have HP : Kept (Ppa.peek (Ppa.blanksL r') = 47) := ⟨(peek_is 47 (by decide) _).2 h47⟩
          have HU := Kept.mk hu
          have HT := Kept.mk htx
          have HM := Kept.mk hme
          clear hb hu h47 htx hme
          go_wp2_with (first | (go_at_call 76; refine (blank_t V.ps KB.out).mono ?_; rintro e w3 ⟨rfl, H3, hb3⟩; have B3 := Kept.mk (BW.out.trans hb3); clear hb3) | (go_at_call 39; refine (blanks_s H3).mono ?_; rintro e w4 ⟨rfl, H4, hb4⟩; have B4 := Kept.mk (B3.out.trans hb4); clear hb4) | (go_at_call 77; refine (peek_v H4 HP.out).mono ?_; rintro e w5 ⟨rfl, H5, hb5⟩; have B5 := Kept.mk (B4.out.trans hb5); clear hb5))
          go_meet
          case rel => exact ⟨47 :: u, st', HX, by rw [← HU.out]; exact H5, B5, by rw [← HU.out]; exact HM, by rw [← HU.out]; exact HT, by rw [← HU.out]; have := V.len; omega⟩
        · by_cases h62 : (Ppa.blanksL r').head? = some 62
          · obtain ⟨u, hu⟩ := head_cons h62
            have HX : Kept (oA = .ok (62 :: u, st')) := ⟨by have h2 := V.eq; rw [attrs_end hb hu (.inr rfl)] at h2; injection h2 with h2; exact h2.symm⟩
            have HP : Kept (Ppa.peek (Ppa.blanksL r') = 62) := ⟨(peek_is 62 (by decide) _).2 h62⟩
            have HU := Kept.mk hu
            have HT := Kept.mk htx
            have HM := Kept.mk hme
            clear hb hu h47 h62 htx hme
            go_wp2_with (first | (go_at_call 76; refine (blank_t V.ps KB.out).mono ?_; rintro e w3 ⟨rfl, H3, hb3⟩; have B3 := Kept.mk (BW.out.trans hb3); clear hb3) | (go_at_call 39; refine (blanks_s H3).mono ?_; rintro e w4 ⟨rfl, H4, hb4⟩; have B4 := Kept.mk (B3.out.trans hb4); clear hb4) | (go_at_call 77; refine (peek_v H4 HP.out).mono ?_; rintro e w5 ⟨rfl, H5, hb5⟩; have B5 := Kept.mk (B4.out.trans hb5); clear hb5))
            go_meet
            case rel => exact ⟨62 :: u, st', HX, by rw [← HU.out]; exact H5, B5, by rw [← HU.out]; exact HM, by rw [← HU.out]; exact HT, by rw [← HU.out]; have := V.len; omega⟩
          · have hmore := V.eq
            rw [attrs_more hb h47 h62] at hmore
            have p47 : ¬ Ppa.peek (Ppa.blanksL r') = 47 := fun e => h47 ((peek_is 47 (by decide) _).1 e)
            have p62 : ¬ Ppa.peek (Ppa.blanksL r') = 62 := fun e => h62 ((peek_is 62 (by decide) _).1 e)
            have q62 : (Ppa.peek (Ppa.blanksL r') == 62) = false := by simpa using p62
            have q47 : (Ppa.peek (Ppa.blanksL r') == 47) = false := by simpa using p47
            have hN := V.node
            have hvl := V.len
            have HT := Kept.mk htx
            have HM := Kept.mk hme
            clear h47 h62 hb htx hme
            cases hat : Ppa.attrM s.size q (Ppa.blanksL r') st' with
            | error r2 =>
              rw [hat] at hmore
              have HX : Kept (o = .error r2) := ⟨by injection hmore with h2; have h3 := KO.out; rw [← h2] at h3; unfold tailM at h3; injection h3 with h3; exact h3.symm⟩
              have KAT := Kept.mk hat
              clear hat hmore
              go_wp2_with (first | (go_at_call 76; refine (blank_t V.ps KB.out).mono ?_; rintro e w3 ⟨rfl, H3, hb3⟩; have B3 := Kept.mk (BW.out.trans hb3); clear hb3) | (go_at_call 39; refine (blanks_s H3).mono ?_; rintro e w4 ⟨rfl, H4, hb4⟩; have B4 := Kept.mk (B3.out.trans hb4); clear hb4) | (go_at_call 77; refine (peek_t H4).mono ?_; rintro e w5 ⟨rfl, H5, hb5⟩; have B5 := Kept.mk (B4.out.trans hb5); clear hb5) | (go_at_call 83; refine (waysS_no (attribute_s H5 HM.out HT.out hN) KAT.out).mono ?_; rintro e w6 ⟨rfl, hl6, hb6⟩; have B6 := Kept.mk (B5.out.trans hb6); clear hb6))
              exact ⟨rfl, B6.out, by rw [HX.out]; exact ⟨rfl, hl6⟩⟩
            | ok q2 =>
              obtain ⟨r2, st2⟩ := q2
              rw [hat] at hmore
              obtain ⟨a1, a2, a3, _, a5⟩ := Ppa.attrM_ok hat
              have a6 := a1.length_le
              have HE := Kept.mk hmore
              have HT2 := Kept.mk (a3 HT.out)
              have HM2 : Kept (Ppa.meas st2 r2 ≤ 300000) := ⟨by have := HM.out; omega⟩
              have KAT := Kept.mk hat
              clear hat hmore a1 a2 a3
              go_wp2_with (first | (go_at_call 76; refine (blank_t V.ps KB.out).mono ?_; rintro e w3 ⟨rfl, H3, hb3⟩; have B3 := Kept.mk (BW.out.trans hb3); clear hb3) | (go_at_call 39; refine (blanks_s H3).mono ?_; rintro e w4 ⟨rfl, H4, hb4⟩; have B4 := Kept.mk (B3.out.trans hb4); clear hb4) | (go_at_call 77; refine (peek_t H4).mono ?_; rintro e w5 ⟨rfl, H5, hb5⟩; have B5 := Kept.mk (B4.out.trans hb5); clear hb5) | (go_at_call 83; refine (waysS_ok (attribute_s H5 HM.out HT.out hN) KAT.out).mono ?_; rintro e w6 ⟨rfl, H6, hb6⟩; have B6 := Kept.mk (B5.out.trans hb6); clear hb6))
              go_roundg g
              case measure => omega
              case rel => exact ⟨r2, st2, ⟨H6, HM2.out, HT2.out, HE.out, by omega, by omega⟩, B6⟩
  case rest =>
    obtain ⟨r2, st2, HX, H3, B3, HM, HT, hl2⟩ := hcut
    have hto := KO.out
    rw [HX.out] at hto
    clear H1 H2 K1 KA KT KM KO
    by_cases h47 : r2.head? = some 47
    · obtain ⟨u, rfl⟩ := head_cons h47
      rw [tail_slash] at hto
      clear h47
      cases hmu : Ppa.mustL [62] u with
      | error r3 =>
        rw [hmu] at hto
        have HO : Kept (o = .error r3) := ⟨by injection hto with hto; exact hto.symm⟩
        have KU := Kept.mk hmu
        clear hmu hto
        go_wp2_with (first | (go_at_call 41; refine (may_yes 47 (by decide) H3).mono ?_; rintro e w4 ⟨rfl, H4, hb4⟩; have B4 := Kept.mk (B3.out.trans hb4); clear hb4) | (go_at_call 40; refine (must_s_no [62] (by decide) H4 KU.out).mono ?_; rintro e w5 ⟨rfl, hl5, hb5⟩; have B5 := Kept.mk (B4.out.trans hb5); clear hb5))
        exact ⟨rfl, B5.out, by rw [HO.out]; exact ⟨rfl, hl5⟩⟩
      | ok r3 =>
        rw [hmu] at hto
        have HO : Kept (o = .ok (r3, st2)) := ⟨by injection hto with hto; exact hto.symm⟩
        have KU := Kept.mk hmu
        clear hmu hto
        go_wp2_with (first | (go_at_call 41; refine (may_yes 47 (by decide) H3).mono ?_; rintro e w4 ⟨rfl, H4, hb4⟩; have B4 := Kept.mk (B3.out.trans hb4); clear hb4) | (go_at_call 40; refine (must_s_ok [62] (by decide) H4 KU.out).mono ?_; rintro e w5 ⟨rfl, H5, hb5⟩; have B5 := Kept.mk (B4.out.trans hb5); clear hb5))
        go_end0
        exact ⟨B5.out, by rw [HO.out]; exact ⟨rfl, H5⟩⟩
    · cases hmu : Ppa.mustL [62] r2 with
      | error r3 =>
        rw [tail_no h47 hmu] at hto
        have HO : Kept (o = .error r3) := ⟨by injection hto with hto; exact hto.symm⟩
        have KU := Kept.mk hmu
        have K47 := Kept.mk h47
        clear hmu hto h47
        go_wp2_with (first | (go_at_call 41; refine (may_not 47 (by decide) K47.out H3).mono ?_; rintro e w4 ⟨rfl, H4, hb4⟩; have B4 := Kept.mk (B3.out.trans hb4); clear hb4) | (go_at_call 40; refine (must_s_no [62] (by decide) H4 KU.out).mono ?_; rintro e w5 ⟨rfl, hl5, hb5⟩; have B5 := Kept.mk (B4.out.trans hb5); clear hb5))
        exact ⟨rfl, B5.out, by rw [HO.out]; exact ⟨rfl, hl5⟩⟩
      | ok r3 =>
        rw [tail_cont h47 hmu] at hto
        have l3 := (Ppa.mustL_suf hmu).length_le
        have m3 := meas_small (Ppa.mustL_suf hmu) HM.out
        have t3 := mustL_texts _ _ _ (by decide) HT.out hmu
        have KU := Kept.mk hmu
        have K47 := Kept.mk h47
        have hq9 : (q : Int) ≤ 300000 := by have h2 := KS.out; have h3 := KM2.out; unfold Ppa.meas at h3; omega
        cases hco : Ppa.contF s.size f (q : Int) d 0 r3 st2 with
        | none => rw [hco] at hto; cases hto
        | some oc =>
          have CC := Kept.mk (fun (wx : World) (hx : Ps B b s st2 r3 wx) => hC (q : Int) d st2 r3 wx oc hx m3 t3 (by omega) hq9 (by omega) hco)
          rw [hco] at hto
          clear hmu h47 hco m3 t3 hC
          cases oc with
          | error r4 =>
            have HO : Kept (o = .error r4) := ⟨by injection hto with hto; exact hto.symm⟩
            clear hto
            go_wp2_with (first | (go_at_call 41; refine (may_not 47 (by decide) K47.out H3).mono ?_; rintro e w4 ⟨rfl, H4, hb4⟩; have B4 := Kept.mk (B3.out.trans hb4); clear hb4) | (go_at_call 40; refine (must_s_ok [62] (by decide) H4 KU.out).mono ?_; rintro e w5 ⟨rfl, H5, hb5⟩; have B5 := Kept.mk (B4.out.trans hb5); clear hb5) | (go_at_call 58; refine (waysS_no (CC.out _ H5) rfl).mono ?_; rintro e w6 ⟨rfl, hl6, hb6⟩; have B6 := Kept.mk (B5.out.trans hb6); clear hb6))
            exact ⟨rfl, B6.out, by rw [HO.out]; exact ⟨rfl, hl6⟩⟩
          | ok q4 =>
            obtain ⟨r4, st4⟩ := q4
            dsimp only at hto
            unfold Ppa.closeM at hto
            cases hag : Ppa.againL nm r4 with
            | error r5 =>
              rw [hag] at hto
              have HO : Kept (o = .error r5) := ⟨by injection hto with hto; exact hto.symm⟩
              have KG := Kept.mk hag
              clear hto hag
              go_wp2_with (first | (go_at_call 41; refine (may_not 47 (by decide) K47.out H3).mono ?_; rintro e w4 ⟨rfl, H4, hb4⟩; have B4 := Kept.mk (B3.out.trans hb4); clear hb4) | (go_at_call 40; clear TG0; refine (must_s_ok [62] (by decide) H4 KU.out).mono ?_; rintro e w5 ⟨rfl, H5, hb5⟩; have B5 := Kept.mk (B4.out.trans hb5); clear hb5) | (go_at_call 58; refine (waysS_ok (CC.out _ H5) rfl).mono ?_; rintro e w6 ⟨rfl, H6, hb6⟩; have B6 := Kept.mk (B5.out.trans hb6); clear hb6) | (go_at_call 40; refine (again_s_no H6 KG.out).mono ?_; rintro e w7 ⟨rfl, hl7, hb7⟩; have B7 := Kept.mk (B6.out.trans hb7); clear hb7))
              exact ⟨rfl, B7.out, by rw [HO.out]; exact ⟨rfl, hl7⟩⟩
            | ok r5 =>
              rw [hag] at hto
              dsimp only at hto
              have KG := Kept.mk hag
              clear hag
              cases hme : Ppa.mustL [62] (Ppa.blanksL r5) with
              | error r6 =>
                rw [hme] at hto
                have HO : Kept (o = .error r6) := ⟨by injection hto with hto; exact hto.symm⟩
                have KE := Kept.mk hme
                clear hto hme
                go_wp2_with (first | (go_at_call 41; refine (may_not 47 (by decide) K47.out H3).mono ?_; rintro e w4 ⟨rfl, H4, hb4⟩; have B4 := Kept.mk (B3.out.trans hb4); clear hb4) | (go_at_call 40; clear TG0; refine (must_s_ok [62] (by decide) H4 KU.out).mono ?_; rintro e w5 ⟨rfl, H5, hb5⟩; have B5 := Kept.mk (B4.out.trans hb5); clear hb5) | (go_at_call 58; refine (waysS_ok (CC.out _ H5) rfl).mono ?_; rintro e w6 ⟨rfl, H6, hb6⟩; have B6 := Kept.mk (B5.out.trans hb6); clear hb6) | (go_at_call 40; clear TG1; refine (again_s_ok H6 KG.out).mono ?_; rintro e w7 ⟨rfl, H7, hb7⟩; have B7 := Kept.mk (B6.out.trans hb7); clear hb7) | (go_at_call 39; refine (blanks_s H7).mono ?_; rintro e w8 ⟨rfl, H8, hb8⟩; have B8 := Kept.mk (B7.out.trans hb8); clear hb8) | (go_at_call 40; refine (must_s_no [62] (by decide) H8 KE.out).mono ?_; rintro e w9 ⟨rfl, hl9, hb9⟩; have B9 := Kept.mk (B8.out.trans hb9); clear hb9))
                exact ⟨rfl, B9.out, by rw [HO.out]; exact ⟨rfl, hl9⟩⟩
              | ok r6 =>
                rw [hme] at hto
                have HO : Kept (o = .ok (r6, st4)) := ⟨by injection hto with hto; exact hto.symm⟩
                have KE := Kept.mk hme
                clear hto hme
                go_wp2_with (first | (go_at_call 41; refine (may_not 47 (by decide) K47.out H3).mono ?_; rintro e w4 ⟨rfl, H4, hb4⟩; have B4 := Kept.mk (B3.out.trans hb4); clear hb4) | (go_at_call 40; clear TG0; refine (must_s_ok [62] (by decide) H4 KU.out).mono ?_; rintro e w5 ⟨rfl, H5, hb5⟩; have B5 := Kept.mk (B4.out.trans hb5); clear hb5) | (go_at_call 58; refine (waysS_ok (CC.out _ H5) rfl).mono ?_; rintro e w6 ⟨rfl, H6, hb6⟩; have B6 := Kept.mk (B5.out.trans hb6); clear hb6) | (go_at_call 40; clear TG1; refine (again_s_ok H6 KG.out).mono ?_; rintro e w7 ⟨rfl, H7, hb7⟩; have B7 := Kept.mk (B6.out.trans hb7); clear hb7) | (go_at_call 39; refine (blanks_s H7).mono ?_; rintro e w8 ⟨rfl, H8, hb8⟩; have B8 := Kept.mk (B7.out.trans hb8); clear hb8) | (go_at_call 40; refine (must_s_ok [62] (by decide) H8 KE.out).mono ?_; rintro e w9 ⟨rfl, H9, hb9⟩; have B9 := Kept.mk (B8.out.trans hb9); clear hb9))
                go_end0
                exact ⟨B9.out, by rw [HO.out]; exact ⟨rfl, H9⟩⟩
set_option maxRecDepth 100000 in
set_option maxHeartbeats 4000000 in
theorem element_c {B b f d : Nat} {s : ByteArray} {st : Ppa.St} {r r1 nm : Ppa.Bs} {w : World} (p : Int) (hC : ContC B b s f) (h : Ps B b s st r w) (hm : Ppa.meas st r ≤ 300000) (ht : Pch.textsL r = true) (hd : d + r.length ≤ 100000) (h1 : Ppa.nameM r = .ok (nm, r1)) {oA o : Except Ppa.Bs (Ppa.Bs × Ppa.St)} (ha : Ppa.attrsF s.size (Ppa.elemS s.size p d r nm st).nodes.length.pred (f + 1) r1 (Ppa.elemS s.size p d r nm st) = some oA) (ho : tailM s.size f nm (Ppa.elemS s.size p d r nm st).nodes.length.pred d oA = some o) (hr : 1 ≤ s.size - r.length)
    (hA : 60 < d) (hA2 : ¬ st.deep < 0) :
    Calls Tryz.prog 45 #[.pointer (some ⟨b, 0, none⟩), .int .i64 p, .int .i64 (d : Int)] w fun e w' => WaysS B b s w (.tuple #[]) o e w' := by
  have B0 : Kept (Bel B b w w) := ⟨Bel.refl _ _ _⟩
  have hsm := h.small
  have hlen := h.len
  obtain ⟨k, hk, c1⟩ := h.at_
  have t1 := (Ppa.nameM_ok h1).2.2 ht
  have l1 := Ppa.nameM_lt h1
  have m1 := meas_small (Ppa.nameM_suf h1) hm
  have hS : Ppa.elemS s.size p d r nm st = Ppa.add st (2, nm, [], p) := by
    unfold Ppa.elemS
    rw [if_neg (fun h => hA2 h.2)]
  have hpos := elemS_text s.size p d r nm st
  have hms := Ppa.elemS_meas s.size p d r nm st r1
  have hm2 := Ppa.meas_lt (s := st) (r := r) (r' := r1) (k := 1) (by omega)
  have hq : (Ppa.elemS s.size p d r nm st).nodes.length.pred = (Ppa.flush st p).nodes.length := by rw [hS, add_other (by decide)]; simp
  rw [hq] at ha ho
  rw [hS] at ha hpos hms hq
  have hsz : (Ppa.add st (2, nm, [], p)).nodes.length = (Ppa.flush st p).nodes.length + 1 := by rw [add_other (by decide)]; simp
  generalize hQ : (Ppa.flush st p).nodes.length = q at ha ho hsz
  have K1 := Kept.mk h1
  have KA := Kept.mk ha
  have KO := Kept.mk ho
  have KT := Kept.mk t1
  have KQ := Kept.mk hQ
  have KS := Kept.mk hsz
  have KM2 : Kept (Ppa.meas (Ppa.add st (2, nm, [], p)) r1 ≤ 300000) := ⟨by omega⟩
  have KM : Kept (Ppa.meas (Ppa.add st (2, nm, [], p)) r1 ≤ 300000) := ⟨by omega⟩
  have i0 : (1 : Int) ≤ (k : Int) := by omega
  have i1 : (k : Int) ≤ 65536 := by omega
  have i2 : (60 : Int) < (d : Int) := by omega
  have TG0 : Kept True := ⟨trivial⟩
  have TG1 : Kept True := ⟨trivial⟩
  clear h1 ha ho t1 hQ hS hsz hms hm2 hpos hq
  go_enter Tryz.func45, Tryz.ntmps45
  go_upto_block 0 with (first
    | (go_at_call 79; refine (name_s_ok h K1.out).mono ?_; rintro e w1 ⟨rfl, H1, hb1⟩; have B1 := Kept.mk (B0.out.trans hb1); clear hb1; have c6 := H1.c6)
    | (go_at_call 35; refine (add_t 2 (by decide) nm [] p H1 m1).mono ?_; rintro e w2 ⟨rfl, H2, hb2⟩; rw [KQ.out]; have B2 := Kept.mk (B1.out.trans hb2); clear hb2))
  go_cut [9] from 35 to 49 (fun _ wx => ∃ r2 st2, Kept (oA = .ok (r2, st2)) ∧ Ps B b s st2 r2 wx ∧ Kept (Bel B b w wx) ∧ Kept (Ppa.meas st2 r2 ≤ 300000) ∧ Kept (Pch.textsL r2 = true) ∧ r2.length ≤ r1.length)
  case first =>
    go_wp2_with fail
    go_loopg [9] (f + 1) (fun g _ wx => ∃ r' st', At_ B b s q r1.length oA g st' r' wx ∧ Kept (Bel B b w wx))
    case atStart => exact ⟨r1, _, ⟨H2, KM.out, KT.out, KA.out, by rw [KS.out]; omega, Nat.le_refl _⟩, B2⟩
    case round =>
      obtain ⟨r', st', V, BW⟩ := hrel
      obtain ⟨g, rfl⟩ : ∃ g, gk = g + 1 := by
        cases gk with
        | zero => have h2 := V.eq; rw [Ppa.attrsF] at h2; cases h2
        | succ g => exact ⟨g, rfl⟩
      clear H1 H2 K1 KA KT KM
      cases hb : blankH r' with
      | false =>
        have HX : Kept (oA = .ok (r', st')) := ⟨by have h2 := V.eq; rw [attrs_stop hb] at h2; injection h2 with h2; exact h2.symm⟩
        have KB := Kept.mk hb
        clear hb
        go_wp2_with (go_at_call 76; refine (blank_t V.ps KB.out).mono ?_; rintro e w3 ⟨rfl, H3, hb3⟩; have B3 := Kept.mk (BW.out.trans hb3); clear hb3)
        go_meet
        case rel => exact ⟨r', st', HX, H3, B3, ⟨V.m⟩, ⟨V.tx⟩, V.len⟩
      | true =>
        have KB := Kept.mk hb
        have hz := blanks_shorter hb
        have htx := Ppa.blanksL_texts V.tx
        have hme := meas_small (Ppa.blanksL_suf r') V.m
        by_cases h47 : (Ppa.blanksL r').head? = some 47
        · obtain ⟨u, hu⟩ := head_cons h47
          have HX : Kept (oA = .ok (47 :: u, st')) := ⟨by have h2 := V.eq; rw [attrs_end hb hu (.inl rfl)] at h2; injection h2 with h2; exact h2.symm⟩
          have HP : Kept (Ppa.peek (Ppa.blanksL r') = 47) := ⟨(peek_is 47 (by decide) _).2 h47⟩
          have HU := Kept.mk hu
          have HT := Kept.mk htx
          have HM := Kept.mk hme
          clear hb hu h47 htx hme
          go_wp2_with (first | (go_at_call 76; refine (blank_t V.ps KB.out).mono ?_; rintro e w3 ⟨rfl, H3, hb3⟩; have B3 := Kept.mk (BW.out.trans hb3); clear hb3) | (go_at_call 39; refine (blanks_s H3).mono ?_; rintro e w4 ⟨rfl, H4, hb4⟩; have B4 := Kept.mk (B3.out.trans hb4); clear hb4) | (go_at_call 77; refine (peek_v H4 HP.out).mono ?_; rintro e w5 ⟨rfl, H5, hb5⟩; have B5 := Kept.mk (B4.out.trans hb5); clear hb5))
          go_meet
          case rel => exact ⟨47 :: u, st', HX, by rw [← HU.out]; exact H5, B5, by rw [← HU.out]; exact HM, by rw [← HU.out]; exact HT, by rw [← HU.out]; have := V.len; omega⟩
        · by_cases h62 : (Ppa.blanksL r').head? = some 62
          · obtain ⟨u, hu⟩ := head_cons h62
            have HX : Kept (oA = .ok (62 :: u, st')) := ⟨by have h2 := V.eq; rw [attrs_end hb hu (.inr rfl)] at h2; injection h2 with h2; exact h2.symm⟩
            have HP : Kept (Ppa.peek (Ppa.blanksL r') = 62) := ⟨(peek_is 62 (by decide) _).2 h62⟩
            have HU := Kept.mk hu
            have HT := Kept.mk htx
            have HM := Kept.mk hme
            clear hb hu h47 h62 htx hme
            go_wp2_with (first | (go_at_call 76; refine (blank_t V.ps KB.out).mono ?_; rintro e w3 ⟨rfl, H3, hb3⟩; have B3 := Kept.mk (BW.out.trans hb3); clear hb3) | (go_at_call 39; refine (blanks_s H3).mono ?_; rintro e w4 ⟨rfl, H4, hb4⟩; have B4 := Kept.mk (B3.out.trans hb4); clear hb4) | (go_at_call 77; refine (peek_v H4 HP.out).mono ?_; rintro e w5 ⟨rfl, H5, hb5⟩; have B5 := Kept.mk (B4.out.trans hb5); clear hb5))
            go_meet
            case rel => exact ⟨62 :: u, st', HX, by rw [← HU.out]; exact H5, B5, by rw [← HU.out]; exact HM, by rw [← HU.out]; exact HT, by rw [← HU.out]; have := V.len; omega⟩
          · have hmore := V.eq
            rw [attrs_more hb h47 h62] at hmore
            have p47 : ¬ Ppa.peek (Ppa.blanksL r') = 47 := fun e => h47 ((peek_is 47 (by decide) _).1 e)
            have p62 : ¬ Ppa.peek (Ppa.blanksL r') = 62 := fun e => h62 ((peek_is 62 (by decide) _).1 e)
            have q62 : (Ppa.peek (Ppa.blanksL r') == 62) = false := by simpa using p62
            have q47 : (Ppa.peek (Ppa.blanksL r') == 47) = false := by simpa using p47
            have hN := V.node
            have hvl := V.len
            have HT := Kept.mk htx
            have HM := Kept.mk hme
            clear h47 h62 hb htx hme
            cases hat : Ppa.attrM s.size q (Ppa.blanksL r') st' with
            | error r2 =>
              rw [hat] at hmore
              have HX : Kept (o = .error r2) := ⟨by injection hmore with h2; have h3 := KO.out; rw [← h2] at h3; unfold tailM at h3; injection h3 with h3; exact h3.symm⟩
              have KAT := Kept.mk hat
              clear hat hmore
              go_wp2_with (first | (go_at_call 76; refine (blank_t V.ps KB.out).mono ?_; rintro e w3 ⟨rfl, H3, hb3⟩; have B3 := Kept.mk (BW.out.trans hb3); clear hb3) | (go_at_call 39; refine (blanks_s H3).mono ?_; rintro e w4 ⟨rfl, H4, hb4⟩; have B4 := Kept.mk (B3.out.trans hb4); clear hb4) | (go_at_call 77; refine (peek_t H4).mono ?_; rintro e w5 ⟨rfl, H5, hb5⟩; have B5 := Kept.mk (B4.out.trans hb5); clear hb5) | (go_at_call 83; refine (waysS_no (attribute_s H5 HM.out HT.out hN) KAT.out).mono ?_; rintro e w6 ⟨rfl, hl6, hb6⟩; have B6 := Kept.mk (B5.out.trans hb6); clear hb6))
              exact ⟨rfl, B6.out, by rw [HX.out]; exact ⟨rfl, hl6⟩⟩
            | ok q2 =>
              obtain ⟨r2, st2⟩ := q2
              rw [hat] at hmore
              obtain ⟨a1, a2, a3, _, a5⟩ := Ppa.attrM_ok hat
              have a6 := a1.length_le
              have HE := Kept.mk hmore
              have HT2 := Kept.mk (a3 HT.out)
              have HM2 : Kept (Ppa.meas st2 r2 ≤ 300000) := ⟨by have := HM.out; omega⟩
              have KAT := Kept.mk hat
              clear hat hmore a1 a2 a3
              go_wp2_with (first | (go_at_call 76; refine (blank_t V.ps KB.out).mono ?_; rintro e w3 ⟨rfl, H3, hb3⟩; have B3 := Kept.mk (BW.out.trans hb3); clear hb3) | (go_at_call 39; refine (blanks_s H3).mono ?_; rintro e w4 ⟨rfl, H4, hb4⟩; have B4 := Kept.mk (B3.out.trans hb4); clear hb4) | (go_at_call 77; refine (peek_t H4).mono ?_; rintro e w5 ⟨rfl, H5, hb5⟩; have B5 := Kept.mk (B4.out.trans hb5); clear hb5) | (go_at_call 83; refine (waysS_ok (attribute_s H5 HM.out HT.out hN) KAT.out).mono ?_; rintro e w6 ⟨rfl, H6, hb6⟩; have B6 := Kept.mk (B5.out.trans hb6); clear hb6))
              go_roundg g
              case measure => omega
              case rel => exact ⟨r2, st2, ⟨H6, HM2.out, HT2.out, HE.out, by omega, by omega⟩, B6⟩
  case rest =>
    obtain ⟨r2, st2, HX, H3, B3, HM, HT, hl2⟩ := hcut
    have hto := KO.out
    rw [HX.out] at hto
    clear H1 H2 K1 KA KT KM KO
    by_cases h47 : r2.head? = some 47
    · obtain ⟨u, rfl⟩ := head_cons h47
      rw [tail_slash] at hto
      clear h47
      cases hmu : Ppa.mustL [62] u with
      | error r3 =>
        rw [hmu] at hto
        have HO : Kept (o = .error r3) := ⟨by injection hto with hto; exact hto.symm⟩
        have KU := Kept.mk hmu
        clear hmu hto
        go_wp2_with (first | (go_at_call 41; refine (may_yes 47 (by decide) H3).mono ?_; rintro e w4 ⟨rfl, H4, hb4⟩; have B4 := Kept.mk (B3.out.trans hb4); clear hb4) | (go_at_call 40; refine (must_s_no [62] (by decide) H4 KU.out).mono ?_; rintro e w5 ⟨rfl, hl5, hb5⟩; have B5 := Kept.mk (B4.out.trans hb5); clear hb5))
        exact ⟨rfl, B5.out, by rw [HO.out]; exact ⟨rfl, hl5⟩⟩
      | ok r3 =>
        rw [hmu] at hto
        have HO : Kept (o = .ok (r3, st2)) := ⟨by injection hto with hto; exact hto.symm⟩
        have KU := Kept.mk hmu
        clear hmu hto
        go_wp2_with (first | (go_at_call 41; refine (may_yes 47 (by decide) H3).mono ?_; rintro e w4 ⟨rfl, H4, hb4⟩; have B4 := Kept.mk (B3.out.trans hb4); clear hb4) | (go_at_call 40; refine (must_s_ok [62] (by decide) H4 KU.out).mono ?_; rintro e w5 ⟨rfl, H5, hb5⟩; have B5 := Kept.mk (B4.out.trans hb5); clear hb5))
        go_end0
        exact ⟨B5.out, by rw [HO.out]; exact ⟨rfl, H5⟩⟩
    · cases hmu : Ppa.mustL [62] r2 with
      | error r3 =>
        rw [tail_no h47 hmu] at hto
        have HO : Kept (o = .error r3) := ⟨by injection hto with hto; exact hto.symm⟩
        have KU := Kept.mk hmu
        have K47 := Kept.mk h47
        clear hmu hto h47
        go_wp2_with (first | (go_at_call 41; refine (may_not 47 (by decide) K47.out H3).mono ?_; rintro e w4 ⟨rfl, H4, hb4⟩; have B4 := Kept.mk (B3.out.trans hb4); clear hb4) | (go_at_call 40; refine (must_s_no [62] (by decide) H4 KU.out).mono ?_; rintro e w5 ⟨rfl, hl5, hb5⟩; have B5 := Kept.mk (B4.out.trans hb5); clear hb5))
        exact ⟨rfl, B5.out, by rw [HO.out]; exact ⟨rfl, hl5⟩⟩
      | ok r3 =>
        rw [tail_cont h47 hmu] at hto
        have l3 := (Ppa.mustL_suf hmu).length_le
        have m3 := meas_small (Ppa.mustL_suf hmu) HM.out
        have t3 := mustL_texts _ _ _ (by decide) HT.out hmu
        have KU := Kept.mk hmu
        have K47 := Kept.mk h47
        have hq9 : (q : Int) ≤ 300000 := by have h2 := KS.out; have h3 := KM2.out; unfold Ppa.meas at h3; omega
        cases hco : Ppa.contF s.size f (q : Int) d 0 r3 st2 with
        | none => rw [hco] at hto; cases hto
        | some oc =>
          have CC := Kept.mk (fun (wx : World) (hx : Ps B b s st2 r3 wx) => hC (q : Int) d st2 r3 wx oc hx m3 t3 (by omega) hq9 (by omega) hco)
          rw [hco] at hto
          clear hmu h47 hco m3 t3 hC
          cases oc with
          | error r4 =>
            have HO : Kept (o = .error r4) := ⟨by injection hto with hto; exact hto.symm⟩
            clear hto
            go_wp2_with (first | (go_at_call 41; refine (may_not 47 (by decide) K47.out H3).mono ?_; rintro e w4 ⟨rfl, H4, hb4⟩; have B4 := Kept.mk (B3.out.trans hb4); clear hb4) | (go_at_call 40; refine (must_s_ok [62] (by decide) H4 KU.out).mono ?_; rintro e w5 ⟨rfl, H5, hb5⟩; have B5 := Kept.mk (B4.out.trans hb5); clear hb5) | (go_at_call 58; refine (waysS_no (CC.out _ H5) rfl).mono ?_; rintro e w6 ⟨rfl, hl6, hb6⟩; have B6 := Kept.mk (B5.out.trans hb6); clear hb6))
            exact ⟨rfl, B6.out, by rw [HO.out]; exact ⟨rfl, hl6⟩⟩
          | ok q4 =>
            obtain ⟨r4, st4⟩ := q4
            dsimp only at hto
            unfold Ppa.closeM at hto
            cases hag : Ppa.againL nm r4 with
            | error r5 =>
              rw [hag] at hto
              have HO : Kept (o = .error r5) := ⟨by injection hto with hto; exact hto.symm⟩
              have KG := Kept.mk hag
              clear hto hag
              go_wp2_with (first | (go_at_call 41; refine (may_not 47 (by decide) K47.out H3).mono ?_; rintro e w4 ⟨rfl, H4, hb4⟩; have B4 := Kept.mk (B3.out.trans hb4); clear hb4) | (go_at_call 40; clear TG0; refine (must_s_ok [62] (by decide) H4 KU.out).mono ?_; rintro e w5 ⟨rfl, H5, hb5⟩; have B5 := Kept.mk (B4.out.trans hb5); clear hb5) | (go_at_call 58; refine (waysS_ok (CC.out _ H5) rfl).mono ?_; rintro e w6 ⟨rfl, H6, hb6⟩; have B6 := Kept.mk (B5.out.trans hb6); clear hb6) | (go_at_call 40; refine (again_s_no H6 KG.out).mono ?_; rintro e w7 ⟨rfl, hl7, hb7⟩; have B7 := Kept.mk (B6.out.trans hb7); clear hb7))
              exact ⟨rfl, B7.out, by rw [HO.out]; exact ⟨rfl, hl7⟩⟩
            | ok r5 =>
              rw [hag] at hto
              dsimp only at hto
              have KG := Kept.mk hag
              clear hag
              cases hme : Ppa.mustL [62] (Ppa.blanksL r5) with
              | error r6 =>
                rw [hme] at hto
                have HO : Kept (o = .error r6) := ⟨by injection hto with hto; exact hto.symm⟩
                have KE := Kept.mk hme
                clear hto hme
                go_wp2_with (first | (go_at_call 41; refine (may_not 47 (by decide) K47.out H3).mono ?_; rintro e w4 ⟨rfl, H4, hb4⟩; have B4 := Kept.mk (B3.out.trans hb4); clear hb4) | (go_at_call 40; clear TG0; refine (must_s_ok [62] (by decide) H4 KU.out).mono ?_; rintro e w5 ⟨rfl, H5, hb5⟩; have B5 := Kept.mk (B4.out.trans hb5); clear hb5) | (go_at_call 58; refine (waysS_ok (CC.out _ H5) rfl).mono ?_; rintro e w6 ⟨rfl, H6, hb6⟩; have B6 := Kept.mk (B5.out.trans hb6); clear hb6) | (go_at_call 40; clear TG1; refine (again_s_ok H6 KG.out).mono ?_; rintro e w7 ⟨rfl, H7, hb7⟩; have B7 := Kept.mk (B6.out.trans hb7); clear hb7) | (go_at_call 39; refine (blanks_s H7).mono ?_; rintro e w8 ⟨rfl, H8, hb8⟩; have B8 := Kept.mk (B7.out.trans hb8); clear hb8) | (go_at_call 40; refine (must_s_no [62] (by decide) H8 KE.out).mono ?_; rintro e w9 ⟨rfl, hl9, hb9⟩; have B9 := Kept.mk (B8.out.trans hb9); clear hb9))
                exact ⟨rfl, B9.out, by rw [HO.out]; exact ⟨rfl, hl9⟩⟩
              | ok r6 =>
                rw [hme] at hto
                have HO : Kept (o = .ok (r6, st4)) := ⟨by injection hto with hto; exact hto.symm⟩
                have KE := Kept.mk hme
                clear hto hme
                go_wp2_with (first | (go_at_call 41; refine (may_not 47 (by decide) K47.out H3).mono ?_; rintro e w4 ⟨rfl, H4, hb4⟩; have B4 := Kept.mk (B3.out.trans hb4); clear hb4) | (go_at_call 40; clear TG0; refine (must_s_ok [62] (by decide) H4 KU.out).mono ?_; rintro e w5 ⟨rfl, H5, hb5⟩; have B5 := Kept.mk (B4.out.trans hb5); clear hb5) | (go_at_call 58; refine (waysS_ok (CC.out _ H5) rfl).mono ?_; rintro e w6 ⟨rfl, H6, hb6⟩; have B6 := Kept.mk (B5.out.trans hb6); clear hb6) | (go_at_call 40; clear TG1; refine (again_s_ok H6 KG.out).mono ?_; rintro e w7 ⟨rfl, H7, hb7⟩; have B7 := Kept.mk (B6.out.trans hb7); clear hb7) | (go_at_call 39; refine (blanks_s H7).mono ?_; rintro e w8 ⟨rfl, H8, hb8⟩; have B8 := Kept.mk (B7.out.trans hb8); clear hb8) | (go_at_call 40; refine (must_s_ok [62] (by decide) H8 KE.out).mono ?_; rintro e w9 ⟨rfl, H9, hb9⟩; have B9 := Kept.mk (B8.out.trans hb9); clear hb9))
                go_end0
                exact ⟨B9.out, by rw [HO.out]; exact ⟨rfl, H9⟩⟩
set_option maxRecDepth 100000 in
theorem element_n {B b d : Nat} {s : ByteArray} {st : Ppa.St} {r r1 : Ppa.Bs} {w : World} (p : Int) (h : Ps B b s st r w) (hr : 1 ≤ s.size - r.length) (h1 : Ppa.nameM r = .error r1) :
    Calls Tryz.prog 45 #[.pointer (some ⟨b, 0, none⟩), .int .i64 p, .int .i64 (d : Int)] w fun e w' => WaysS B b s w (.tuple #[]) (.error r1) e w' := by
  obtain ⟨k, hk, c1⟩ := h.at_
  have hsm := h.small
  have i0 : (1 : Int) ≤ (k : Int) := by omega
  have i1 : (k : Int) ≤ 65536 := by omega
  have K1 := Kept.mk h1
  clear h1
  go_enter Tryz.func45, Tryz.ntmps45
  go_wp2_with (go_at_call 79; refine (name_s_no h K1.out).mono ?_; rintro e w1 ⟨rfl, hl1, hb1⟩)
  exact ⟨rfl, hb1, rfl, hl1⟩
theorem element_s {B b f d : Nat} {s : ByteArray} {st : Ppa.St} {r : Ppa.Bs} {w : World} (p : Int) (hC : ContC B b s f) (h : Ps B b s st r w) (hm : Ppa.meas st r ≤ 300000) (ht : Pch.textsL r = true) (hd : d + r.length ≤ 100000) (hr : 1 ≤ s.size - r.length) {o : Except Ppa.Bs (Ppa.Bs × Ppa.St)} (he : Ppa.elemF s.size (f + 1) p d r st = some o) :
    Calls Tryz.prog 45 #[.pointer (some ⟨b, 0, none⟩), .int .i64 p, .int .i64 (d : Int)] w fun e w' => WaysS B b s w (.tuple #[]) o e w' := by
  rw [Ppa.elemF_eq] at he
  cases h1 : Ppa.nameM r with
  | error r1 =>
    rw [h1] at he
    injection he with he
    rw [← he]
    exact element_n p h hr h1
  | ok q =>
    obtain ⟨nm, r1⟩ := q
    rw [h1] at he
    dsimp only at he
    cases ha : Ppa.attrsF s.size (Ppa.elemS s.size p d r nm st).nodes.length.pred (f + 1) r1 (Ppa.elemS s.size p d r nm st) with
    | none => rw [ha] at he; cases he
    | some oA =>
      have ho : tailM s.size f nm (Ppa.elemS s.size p d r nm st).nodes.length.pred d oA = some o := by
        rw [ha] at he
        rw [← he]
        cases oA with
        | error r2 => rfl
        | ok q2 =>
          obtain ⟨r2, s2⟩ := q2
          by_cases h47 : ∃ t, r2 = 47 :: t
          · obtain ⟨t, rfl⟩ := h47
            rfl
          · unfold tailM
            refine (Ppa.match47 h47 _ _).trans ?_
            symm
            exact Ppa.match47 h47 _ _
      by_cases hA : 60 < d
      · by_cases hA2 : st.deep < 0
        · exact element_b p hC h hm ht hd h1 ha ho hr hA hA2
        · exact element_c p hC h hm ht hd h1 ha ho hr hA hA2
      · exact element_a p hC h hm ht hd h1 ha ho hr hA
end Go.Proofs.YtlemdhfekdiaeaaGreatDoor.Wps
