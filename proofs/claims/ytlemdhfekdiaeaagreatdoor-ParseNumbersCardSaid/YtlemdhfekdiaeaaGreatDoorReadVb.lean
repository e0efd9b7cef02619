/- The document's reader: attributes (chapter 07). The document's reader: a name again, an element (chapter 07). The document's reader: content and markup (chapter 07). The document's reader: markup; content at any fuel (chapter 07). The document's reader: a quoted word, a declaration (chapter 07). The document's reader: a declaration, the parts of a document (chapter 07). The document's reader: the first byte that is wrong, a reader's beginning, what is told; its Document and Fragment (chapter 07). -/
import Derived.Test.YtlemdhfekdiaeaaGreatDoorReadVa
namespace Go.Proofs.YtlemdhfekdiaeaaGreatDoor.Wrd
open Go Go.RowKit Go.Proofs.YtlemdhfekdiaeaaGreatDoor.Kb Go.Proofs.YtlemdhfekdiaeaaGreatDoor.Wch Go.Proofs.YtlemdhfekdiaeaaGreatDoor.Wps Go.Proofs.YtlemdhfekdiaeaaGreatDoor.Emk Go.PlainAid

/-- a / or a > stands next -/
def stopH : Ppa.Bs → Bool
  | x :: _ => x == 47 || x == 62
  | [] => false
theorem stopH_lk (r : Ppa.Bs) : stopH r = true ↔ lk (false, r) = 47 ∨ lk (false, r) = 62 := by
  have h1 := lk_is 47 (by decide) (by decide) r
  have h2 := lk_is 62 (by decide) (by decide) r
  rw [show (47 : UInt8).toNat = 47 from rfl] at h1
  rw [show (62 : UInt8).toNat = 62 from rfl] at h2
  rw [h1, h2]
  cases r with
  | nil => simp [stopH]
  | cons y t => simp [stopH]
/-- how the attributes end -/
def EndA (B b : Nat) (s : ByteArray) (o : Except Ppa.Bs (Ppa.Bs × Ppa.St)) (w : World) : Prop := match o with
  | .ok (r, st) => Re B b s st (!stopH r, r) w
  | .error t => ∃ st, Re B b s st (true, t) w
theorem endA_ok {B b : Nat} {s : ByteArray} {r : Ppa.Bs} {st : Ppa.St} {w : World} (h : Re B b s st (!stopH r, r) w) : EndA B b s (.ok (r, st)) w := h
theorem attrs_none {N q f : Nat} {r : Ppa.Bs} {st : Ppa.St} (h : blankH r = false) : Ppa.attrsF N q (f + 1) r st = some (.ok (r, st)) := attrs_stop h
/-- an attribute, as the document's reader goes through it -/
theorem attr_is {N q : Nat} {u : Ppa.Bs} {st : Ppa.St} {σ2 σ4 σ6 : Sg} {nm v : Ppa.Bs} (h1 : nameS (false, u) = (σ2, nm)) (h2 : mustB [61] (blanksB σ2) = σ4) (h3 : valS (blanksB σ4) = (σ6, v)) :
    (σ6.1 = true → Ppa.attrM N q u st = .error σ6.2) ∧ (σ6.1 = false → Ppa.attrM N q u st = .ok (σ6.2, Ppa.add { st with twice := tw st nm ((N : Int) - u.length) (st.nodes.drop (q + 1)) } (3, nm, v, (q : Int))) ∧ σ6 = (false, σ6.2)) := by
  unfold Ppa.attrM
  cases e1 : Ppa.nameM u with
  | error t =>
    rw [nameS_is.2 t e1] at h1
    injection h1 with h1 _
    subst h1
    rw [blanksB_true, mustB_true] at h2
    subst h2
    rw [blanksB_true, valS_true] at h3
    injection h3 with h3 _
    subst h3
    exact ⟨fun _ => rfl, fun h => by cases h⟩
  | ok p =>
    obtain ⟨nm', r1⟩ := p
    rw [nameS_is.1 nm' r1 e1] at h1
    injection h1 with h1 h1'
    subst h1 h1'
    rw [blanksB_false] at h2
    dsimp only
    cases e2 : Ppa.mustL [61] (Ppa.blanksL r1) with
    | error t =>
      rw [mustB_is.2 t e2] at h2
      subst h2
      rw [blanksB_true, valS_true] at h3
      injection h3 with h3 _
      subst h3
      exact ⟨fun _ => rfl, fun h => by cases h⟩
    | ok r2 =>
      rw [mustB_is.1 r2 e2] at h2
      subst h2
      rw [blanksB_false] at h3
      dsimp only
      cases e3 : Ppa.valM (Ppa.blanksL r2) with
      | error t =>
        rw [valS_is.2 t e3] at h3
        injection h3 with h3 _
        subst h3
        exact ⟨fun _ => rfl, fun h => by cases h⟩
      | ok p3 =>
        obtain ⟨v', r3⟩ := p3
        rw [valS_is.1 v' r3 e3] at h3
        injection h3 with h3 h3'
        subst h3 h3'
        exact ⟨fun h => (by cases h), fun _ => ⟨rfl, rfl⟩⟩
section
variable {B b : Nat} {s : ByteArray} {st : Ppa.St} {σ : Sg} {w : World}
theorem Re.twice (h : Re B b s st σ w) (y : Int) : Re B b s { st with twice := y } σ (w.setCell ⟨b, 5, none⟩ (.int .i64 y)) := by
  obtain ⟨z, h⟩ := h
  exact ⟨z, h.twice y⟩
theorem Re.deep (h : Re B b s st σ w) (y : Int) : Re B b s { st with deep := y } σ (w.setCell ⟨b, 6, none⟩ (.int .i64 y)) := by
  obtain ⟨z, h⟩ := h
  exact ⟨z, h.deep y⟩
theorem Re.le (h : Re B b s st σ w) : B ≤ b := by obtain ⟨z, h⟩ := h; exact h.le
set_option maxRecDepth 100000 in
set_option maxHeartbeats 8000000 in
theorem rattrs_any {q F : Nat} {r : Ppa.Bs} {o : Except Ppa.Bs (Ppa.Bs × Ppa.St)} (h : Re B b s st (false, r) w) (hq : q < st.nodes.length) (hm : Ppa.meas st r ≤ 800000) (ho : Ppa.attrsF s.size q F r st = some o) :
    Calls Tryz.prog 92 #[.pointer (some ⟨b, 0, none⟩), .int .i64 (q : Int)] w fun e w' => e = .returned (.tuple #[]) ∧ EndA B b s o w' ∧ Below B w w' := by
  have hs9 := h.small
  have HO := Kept.mk ho
  have P0 := Kept.mk h
  have B0 := Kept.mk (Below.refl B w)
  clear h ho
  go_enter Tryz.func92, Tryz.ntmps92
  go_wp2
  go_loopg [4, 5, 6, 7, 8] F (fun g _ _ _ _ _ wx => ∃ (r' : Ppa.Bs) (st' : Ppa.St), Kept (Re B b s st' (false, r') wx) ∧ Kept (Below B w wx) ∧ Kept (Ppa.attrsF s.size q g r' st' = some o) ∧ q < st'.nodes.length ∧ Ppa.meas st' r' ≤ 800000)
  case atStart => exact ⟨r, st, P0, B0, HO, hq, hm⟩
  case round =>
    obtain ⟨r', st', HP, BW, HA, hq', hm'⟩ := hrel
    clear HO P0 B0 hq hm
    have bd := HP.out.c2
    dsimp only at bd
    have CL := Kept.mk (look_e HP.out)
    have hbk := blk_lk false r'
    have CB := Kept.mk (fun W => rblank_any (lk (false, r')) W)
    rw [hbk] at CB
    have hsl := stopH_lk r'
    have hll := HP.out.len
    dsimp only at hll
    obtain ⟨f, rfl⟩ : ∃ f, gk = f + 1 := by
      cases gk with
      | zero => exfalso; have h := HA.out; rw [Ppa.attrsF] at h; cases h
      | succ f => exact ⟨f, rfl⟩
    unfold Ppa.meas at hm'
    cases hst : stopH r' with
    | true =>
      have hbf : blankH r' = false := by
        cases r' with
        | nil => rfl
        | cons y t =>
          have : y = 47 ∨ y = 62 := by simpa [stopH] using hst
          rcases this with rfl | rfl <;> rfl
      have hoo : o = .ok (r', st') := by have h := HA.out; rw [attrs_stop hbf] at h; injection h with h; exact h.symm
      subst hoo
      have HST := Kept.mk hst
      rcases hsl.1 hst with c | c
      all_goals
        rw [c] at CL
        clear hsl hbk hst hbf CB HA
        go_wp2_with (first | (go_at_call 50; refine (CL.out).mono ?_; rintro e w2 ⟨rfl, H2, hb2⟩; have P2 := Kept.mk H2; have B2 := Kept.mk (BW.out.trans hb2); clear H2 hb2 CL))
        refine bodyPost_ret (results_none rfl _ _ _) rfl ?_
        exact ⟨rfl, endA_ok (by rw [HST.out]; exact P2.out), B2.out⟩
    | false =>
      have n47 : ¬ (lk (false, r') : Int) = 47 := fun e => by rw [hsl.2 (.inl (by omega))] at hst; cases hst
      have n62 : ¬ (lk (false, r') : Int) = 62 := fun e => by rw [hsl.2 (.inr (by omega))] at hst; cases hst
      have q47 : ((lk (false, r') : Int) == 47) = false := by simpa using n47
      have q62 : ((lk (false, r') : Int) == 62) = false := by simpa using n62
      have HST := Kept.mk hst
      generalize lk (false, r') = C at CL CB n47 n62 q47 q62
      cases hbl : blankH r' with
      | false =>
        rw [hbl] at CB
        have hoo : o = .ok (r', st') := by have h := HA.out; rw [attrs_stop hbl] at h; injection h with h; exact h.symm
        subst hoo
        clear hsl hbk hst hbl HA
        go_wp2_with (first | (go_at_call 50; refine (CL.out).mono ?_; rintro e w2 ⟨rfl, H2, hb2⟩; have P2 := Kept.mk H2; have B2 := Kept.mk (BW.out.trans hb2); clear H2 hb2 CL) | (go_at_call 48; refine (CB.out _).mono ?_; rintro e w9 ⟨rfl, rfl⟩) | (go_at_call 52; refine (no_e P2.out).mono ?_; rintro e w3 ⟨rfl, H3, hb3⟩; have P3 := Kept.mk H3; have B3 := Kept.mk (B2.out.trans hb3); clear H3 hb3))
        refine bodyPost_ret (results_none rfl _ _ _) rfl ?_
        exact ⟨rfl, endA_ok (by rw [HST.out]; exact P3.out), B3.out⟩
      | true =>
        rw [hbl] at CB
        have CS := Kept.mk (fun (W : World) (H : Re B b s st' (false, r') W) => blanks_e H)
        rw [blanksB_false] at CS
        have hbs := Ppa.blanksL_suf r'
        have hbll := hbs.length_le
        obtain ⟨u, hu⟩ : ∃ u, Ppa.blanksL r' = u := ⟨_, rfl⟩
        have CL2 := Kept.mk (fun (W : World) (H : Re B b s st' (false, u) W) => look_e H)
        have hsl2 := stopH_lk u
        cases hst2 : stopH u with
        | true =>
          have hoo : o = .ok (u, st') := by
            have h := HA.out
            have hh : ∃ c z, Ppa.blanksL r' = c :: z ∧ (c = 47 ∨ c = 62) := by
              rw [hu]
              cases u with
              | nil => cases hst2
              | cons y t => exact ⟨y, t, rfl, by simpa [stopH] using hst2⟩
            obtain ⟨c, z, e1, e2⟩ := hh
            rw [attrs_end hbl e1 e2] at h
            injection h with h
            rw [← hu, e1]
            exact h.symm
          subst hoo
          rw [hu] at CS
          have HST2 := Kept.mk hst2
          rcases hsl2.1 hst2 with c | c
          all_goals
            rw [c] at CL2
            clear hsl hsl2 hbk hst hst2 hbl HA hu hbs
            go_wp2_with (first | (go_at_call 50; refine (CL.out).mono ?_; rintro e w2 ⟨rfl, H2, hb2⟩; have P2 := Kept.mk H2; have B2 := Kept.mk (BW.out.trans hb2); clear H2 hb2 CL) | (go_at_call 48; refine (CB.out _).mono ?_; rintro e w9 ⟨rfl, rfl⟩) | (go_at_call 86; refine (CS.out _ P2.out).mono ?_; rintro e w3 ⟨rfl, H3, hb3⟩; have P3 := Kept.mk H3; have B3 := Kept.mk (B2.out.trans hb3); clear H3 hb3 CS) | (go_at_call 50; refine (CL2.out _ P3.out).mono ?_; rintro e w4 ⟨rfl, H4, hb4⟩; have P4 := Kept.mk H4; have B4 := Kept.mk (B3.out.trans hb4); clear H4 hb4 CL2))
            refine bodyPost_ret (results_none rfl _ _ _) rfl ?_
            exact ⟨rfl, endA_ok (by rw [HST2.out]; exact P4.out), B4.out⟩
        | false =>
          have m47 : ¬ (lk (false, u) : Int) = 47 := fun e => by rw [hsl2.2 (.inl (by omega))] at hst2; cases hst2
          have m62 : ¬ (lk (false, u) : Int) = 62 := fun e => by rw [hsl2.2 (.inr (by omega))] at hst2; cases hst2
          have p47 : ((lk (false, u) : Int) == 47) = false := by simpa using m47
          have p62 : ((lk (false, u) : Int) == 62) = false := by simpa using m62
          generalize lk (false, u) = D at CL2 m47 m62 p47 p62
          obtain ⟨σ2, nm, h1⟩ : ∃ σ2 nm, nameS (false, u) = (σ2, nm) := ⟨_, _, rfl⟩
          obtain ⟨σ4, h2⟩ : ∃ σ4, mustB [61] (blanksB σ2) = σ4 := ⟨_, rfl⟩
          obtain ⟨σ6, v, h3⟩ : ∃ σ6 v, valS (blanksB σ4) = (σ6, v) := ⟨_, _, rfl⟩
          have hAT := attr_is (N := s.size) (q := q) (st := st') h1 h2 h3
          have CN := Kept.mk (fun (W : World) (H : Re B b s st' (false, u) W) => name_e H)
          have CT5 := Kept.mk (fun (W : World) (H : Re B b s st' σ2 W) => blanks_e H)
          have CM := Kept.mk (fun (W : World) (H : Re B b s st' (blanksB σ2) W) => must_e ⟨#[61]⟩ (by decide) (by decide) H)
          have CT7 := Kept.mk (fun (W : World) (H : Re B b s st' σ4 W) => blanks_e H)
          have CV := Kept.mk (fun (W : World) (H : Re B b s st' (blanksB σ4) W) => value_e H)
          rw [h1] at CN
          rw [show (⟨#[61]⟩ : ByteArray).data.toList = [61] from rfl, h2] at CM
          rw [h3] at CV
          rw [hu] at CS
          obtain ⟨k, hkk⟩ : ∃ k, s.size - u.length = k := ⟨_, rfl⟩
          have HKK := Kept.mk hkk
          have h1u : blankH r' = true ∧ u.head? ≠ some 47 ∧ u.head? ≠ some 62 := by
            refine ⟨hbl, fun e => ?_, fun e => ?_⟩
            · cases u with
              | nil => cases e
              | cons y t => injection e with e; subst e; cases hst2
            · cases u with
              | nil => cases e
              | cons y t => injection e with e; subst e; cases hst2
          have hHA := HA.out
          rw [attrs_more hbl (by rw [hu]; exact h1u.2.1) (by rw [hu]; exact h1u.2.2), hu] at hHA
          have hul : u.length ≤ r'.length := by rw [← hu]; exact hbll
          generalize blanksB σ2 = σ3 at *
          generalize blanksB σ4 = σ5 at *
          obtain ⟨x6, t6⟩ := σ6
          cases x6
          · obtain ⟨hM, _⟩ := hAT.2 rfl
            rw [hM] at hHA
            have hMok := Ppa.attrM_ok hM
            have hm2 : Ppa.meas (Ppa.add { st' with twice := tw st' nm ((s.size : Int) - u.length) (st'.nodes.drop (q + 1)) } (3, nm, v, (q : Int))) t6 ≤ 800000 := by
              refine Nat.le_trans hMok.2.1 ?_
              unfold Ppa.meas
              omega
            have hq2 : q < (Ppa.add { st' with twice := tw st' nm ((s.size : Int) - u.length) (st'.nodes.drop (q + 1)) } (3, nm, v, (q : Int))).nodes.length := by
              have := hMok.2.2.2.2
              omega
            have hfr : (s.size : Int) - u.length = (k : Int) := by omega
            rw [hfr] at hHA hm2 hq2
            have HA2 := Kept.mk hHA
            have HM2 := Kept.mk hm2
            have HQ2 := Kept.mk hq2
            have hn1 : st'.nodes.length ≤ 800000 := by omega
            clear hsl hsl2 hbk hst hst2 hbl HA hu hbs h1 h2 h3 hAT hM hMok hHA hm2 hq2 hkk h1u hfr hul hbll HST
            go_wp2_with (first | (go_at_call 50; refine (CL.out).mono ?_; rintro e w2 ⟨rfl, H2, hb2⟩; have P2 := Kept.mk H2; have B2 := Kept.mk (BW.out.trans hb2); clear H2 hb2 CL) | (go_at_call 48; refine (CB.out _).mono ?_; rintro e w9 ⟨rfl, rfl⟩) | (go_at_call 86; refine (CS.out _ P2.out).mono ?_; rintro e w3 ⟨rfl, H3, hb3⟩; have P3 := Kept.mk H3; have B3 := Kept.mk (B2.out.trans hb3); clear H3 hb3 CS) | (go_at_call 50; refine (CL2.out _ P3.out).mono ?_; rintro e w4 ⟨rfl, H4, hb4⟩; have d1 := H4.c1; dsimp only at d1; rw [HKK.out] at d1; have P4 := Kept.mk H4; have B4 := Kept.mk (B3.out.trans hb4); clear H4 hb4 CL2) | (go_at_call 88; refine (CN.out _ P4.out).mono ?_; rintro e w5 ⟨rfl, H5, hb5⟩; have P5 := Kept.mk H5; have B5 := Kept.mk (B4.out.trans hb5); clear H5 hb5 CN) | (go_at_call 86; refine (CT5.out _ P5.out).mono ?_; rintro e w6 ⟨rfl, H6, hb6⟩; have P6 := Kept.mk H6; have B6 := Kept.mk (B5.out.trans hb6); clear H6 hb6 CT5) | (go_at_call 55; refine (CM.out _ P6.out).mono ?_; rintro e w7 ⟨rfl, H7, hb7⟩; have P7 := Kept.mk H7; have B7 := Kept.mk (B6.out.trans hb7); clear H7 hb7 CM) | (go_at_call 86; refine (CT7.out _ P7.out).mono ?_; rintro e w8 ⟨rfl, H8, hb8⟩; have P8 := Kept.mk H8; have B8 := Kept.mk (B7.out.trans hb8); clear H8 hb8 CT7) | (go_at_call 124; refine (CV.out _ P8.out).mono ?_; rintro e w10 ⟨rfl, H10, hb10⟩; have c10 := H10.c2; have P10 := Kept.mk H10; have B10 := Kept.mk (B8.out.trans hb10); clear H10 hb10 CV))
            have i0 : (0 : Int) ≤ (q : Int) := by omega
            have i1 : (q : Int) + 1 ≤ (st'.nodes.length : Int) := by omega
            have i3 : (st'.nodes.length : Int) ≤ 800000 := by omega
            have Q10 := P10.out
            have HS0 : Kept (Re B b s { st' with twice := tw st' nm (k : Int) (List.take 0 (st'.nodes.drop (q + 1))) } (false, t6) w10) := ⟨by rw [List.take_zero, tw_nil]; exact Q10⟩
            clear Q10
            go_loopg [8] (st'.nodes.length - (q + 1)) (fun g i wx => ∃ j : Nat, i = .int .i64 ((q : Int) + 1 + (j : Int)) ∧ j + g = st'.nodes.length - (q + 1) ∧ Kept (Re B b s { st' with twice := tw st' nm (k : Int) (List.take j (st'.nodes.drop (q + 1))) } (false, t6) wx) ∧ Kept (Below B w wx))
            case atStart => exact ⟨0, by go_num, by omega, HS0, B10⟩
            case round =>
              obtain ⟨j, rfl, hj, HH, BX⟩ := hrel
              clear HS0 B10 P10 P2 P3 P4 P5 P6 P7 P8 B2 B3 B4 B5 B6 B7 B8
              obtain ⟨⟨A, c, vt⟩, H⟩ := HH.out
              have X := H.ex
              have d3 := X.c3
              have d5 := X.c5
              have f5 := X.unf 5
              dsimp only at d3 d5
              by_cases hlt : j < st'.nodes.length - (q + 1)
              · obtain ⟨x, hx⟩ : ∃ x, st'.nodes[q + 1 + j]? = some x := ⟨_, List.getElem?_eq_getElem (by omega)⟩
                have hd : (st'.nodes.drop (q + 1))[j]? = some x := by rw [List.getElem?_drop]; exact hx
                have htk : List.take (j + 1) (st'.nodes.drop (q + 1)) = List.take j (st'.nodes.drop (q + 1)) ++ [x] := by rw [List.take_add_one, hd]; rfl
                obtain ⟨gN, hA, hcN, hgN⟩ := own_some X.nds (by show 0 < st'.nodes.length; omega)
                dsimp only at hA hcN
                subst hA
                obtain ⟨kx, nx, vx, px⟩ := x
                have hc := fun i u hi (hu : (Wtr.ndC (kx, nx, vx, px))[i]? = some u) => Flt.own_at X.nds ((q + 1 + j) * 4 + i) u (by rw [Wtr.ndsC_get st'.nodes (q + 1 + j) _ i hx hi]; exact hu)
                have x1 := hc 1 _ (by omega) rfl
                clear hc
                have j0 : (0 : Int) ≤ (q : Int) + 1 + (j : Int) := by omega
                have j1 : (q : Int) + 1 + (j : Int) < (st'.nodes.length : Int) := by omega
                have j2 : ((q : Int) + 1 + (j : Int)).toNat = q + 1 + j := by omega
                obtain ⟨T, hT⟩ : ∃ T, tw st' nm (k : Int) (List.take j (st'.nodes.drop (q + 1))) = T := ⟨_, rfl⟩
                have HS := fun h => tw_same (st := st') (nm := nm) (fr := (k : Int)) (L := List.take j (st'.nodes.drop (q + 1))) (x := (kx, nx, vx, px)) h
                have HE := fun h h2 => tw_set (st := st') (nm := nm) (fr := (k : Int)) (L := List.take j (st'.nodes.drop (q + 1))) (x := (kx, nx, vx, px)) h h2 (by omega)
                rw [← htk, hT] at HS HE
                dsimp only at HS HE
                rw [hT] at d5 HH
                have HS' := Kept.mk HS
                have HE' := Kept.mk HE
                clear HS HE htk hd hx hT H X
                obtain ⟨g, rfl⟩ : ∃ g, gk = g + 1 := ⟨gk - 1, by omega⟩
                by_cases he : nx = nm
                · subst he
                  by_cases hT0 : T < 0
                  · have HX := Kept.mk (HE'.out rfl hT0)
                    go_wp2
                    go_roundg g
                    case measure => omega
                    case rel =>
                      refine ⟨j + 1, by go_num, by omega, ⟨?_⟩, ⟨BX.out.setCell (p := ⟨b, 5, none⟩) HH.out.le _⟩⟩
                      rw [HX.out]
                      exact HH.out.twice (k : Int)
                  · have HX := Kept.mk (HS'.out (fun h => hT0 h.2))
                    go_wp2
                    go_roundg g
                    case measure => omega
                    case rel =>
                      refine ⟨j + 1, by go_num, by omega, ⟨?_⟩, BX⟩
                      rw [HX.out]
                      exact HH.out
                · have HX := Kept.mk (HS'.out (fun h => he h.1))
                  go_wp2
                  go_roundg g
                  case measure => omega
                  case rel =>
                    refine ⟨j + 1, by go_num, by omega, ⟨?_⟩, BX⟩
                    rw [HX.out]
                    exact HH.out
              · have j1 : ¬ (q : Int) + 1 + (j : Int) < (st'.nodes.length : Int) := by omega
                have ht : List.take j (st'.nodes.drop (q + 1)) = st'.nodes.drop (q + 1) := List.take_of_length_le (by rw [List.length_drop]; omega)
                rw [ht] at HH
                have CA := Kept.mk (fun (W : World) (H : Re B b s { st' with twice := tw st' nm (k : Int) (st'.nodes.drop (q + 1)) } (false, t6) W) => radd_any 3 nm v (q : Int) H (by show st'.nodes.length ≤ 1000000; omega))
                unfold ndV at CA
                clear ht H X
                go_wp2_with (first | (go_at_call 47; refine (CA.out _ HH.out).mono ?_; rintro e w11 ⟨rfl, H11, hb11⟩; have P11 := Kept.mk H11; have B11 := Kept.mk (BX.out.trans hb11); clear H11 hb11 CA))
                go_roundg f
                case measure => omega
                case rel => exact ⟨t6, _, ⟨P11.out⟩, B11, HA2, HQ2.out, HM2.out⟩
          · rw [hAT.1 rfl] at hHA
            injection hHA with hHA
            subst hHA
            clear hsl hsl2 hbk hst hst2 hbl HA hu hbs h1 h2 h3 hAT hkk h1u hul hbll HST
            go_wp2_with (first | (go_at_call 50; refine (CL.out).mono ?_; rintro e w2 ⟨rfl, H2, hb2⟩; have P2 := Kept.mk H2; have B2 := Kept.mk (BW.out.trans hb2); clear H2 hb2 CL) | (go_at_call 48; refine (CB.out _).mono ?_; rintro e w9 ⟨rfl, rfl⟩) | (go_at_call 86; refine (CS.out _ P2.out).mono ?_; rintro e w3 ⟨rfl, H3, hb3⟩; have P3 := Kept.mk H3; have B3 := Kept.mk (B2.out.trans hb3); clear H3 hb3 CS) | (go_at_call 50; refine (CL2.out _ P3.out).mono ?_; rintro e w4 ⟨rfl, H4, hb4⟩; have d1 := H4.c1; dsimp only at d1; rw [HKK.out] at d1; have P4 := Kept.mk H4; have B4 := Kept.mk (B3.out.trans hb4); clear H4 hb4 CL2) | (go_at_call 88; refine (CN.out _ P4.out).mono ?_; rintro e w5 ⟨rfl, H5, hb5⟩; have P5 := Kept.mk H5; have B5 := Kept.mk (B4.out.trans hb5); clear H5 hb5 CN) | (go_at_call 86; refine (CT5.out _ P5.out).mono ?_; rintro e w6 ⟨rfl, H6, hb6⟩; have P6 := Kept.mk H6; have B6 := Kept.mk (B5.out.trans hb6); clear H6 hb6 CT5) | (go_at_call 55; refine (CM.out _ P6.out).mono ?_; rintro e w7 ⟨rfl, H7, hb7⟩; have P7 := Kept.mk H7; have B7 := Kept.mk (B6.out.trans hb7); clear H7 hb7 CM) | (go_at_call 86; refine (CT7.out _ P7.out).mono ?_; rintro e w8 ⟨rfl, H8, hb8⟩; have P8 := Kept.mk H8; have B8 := Kept.mk (B7.out.trans hb8); clear H8 hb8 CT7) | (go_at_call 124; refine (CV.out _ P8.out).mono ?_; rintro e w10 ⟨rfl, H10, hb10⟩; have c10 := H10.c2; have P10 := Kept.mk H10; have B10 := Kept.mk (B8.out.trans hb10); clear H10 hb10 CV))
            refine bodyPost_ret (results_none rfl _ _ _) rfl ?_
            exact ⟨rfl, ⟨_, P10.out⟩, B10.out⟩
end
end Go.Proofs.YtlemdhfekdiaeaaGreatDoor.Wrd
namespace Go.Proofs.YtlemdhfekdiaeaaGreatDoor.Wrd
open Go Go.RowKit Go.Proofs.YtlemdhfekdiaeaaGreatDoor.Kb Go.Proofs.YtlemdhfekdiaeaaGreatDoor.Wch Go.Proofs.YtlemdhfekdiaeaaGreatDoor.Wps Go.Proofs.YtlemdhfekdiaeaaGreatDoor.Emk Go.PlainAid

/-- behind a reading that leaves a rest alone -/
def exS : Except Ppa.Bs Ppa.Bs → Sg
  | .ok t => (false, t)
  | .error t => (true, t)
theorem peek_lk {n r : Ppa.Bs} (hn : n ≠ []) (ht : Pch.textsL n = true) : (lk (false, r) = (Lib.decodeL n).1) ↔ Ppa.peek r = Ppa.peek n := by
  have h1 := lk_peek hn
  have h2 := lk_pos hn ht
  rw [lk_ok hn] at h1 h2
  by_cases hr : r = []
  · subst hr
    rw [lk_nil]
    have : Ppa.peek [] = -1 := rfl
    rw [this]
    omega
  · rw [← lk_peek hr]
    omega
section
variable {B b : Nat} {s : ByteArray} {st : Ppa.St} {σ : Sg} {w : World}
set_option maxRecDepth 100000 in
set_option maxHeartbeats 4000000 in
theorem ragain_any {nm r : Ppa.Bs} (h : Re B b s st (false, r) w) (hn : Pch.textsL nm = true) (hl : nm.length ≤ 65536) :
    Calls Tryz.prog 93 #[.pointer (some ⟨b, 0, none⟩), .string ⟨nm.toArray⟩] w fun e w' => e = .returned (.tuple #[]) ∧ Re B b s st (exS (Ppa.againL nm r)) w' ∧ Below B w w' := by
  have hz : (⟨nm.toArray⟩ : ByteArray).size = nm.length := Lib.size_mk nm
  obtain ⟨O, hO⟩ : ∃ O, Ppa.againL nm r = O := ⟨_, rfl⟩
  rw [hO]
  have HO : Kept (Ppa.againF nm.length (nm.drop 0) r = O) := ⟨hO⟩
  have P0 := Kept.mk h
  have B0 := Kept.mk (Below.refl B w)
  have HN : Kept (Pch.textsL (nm.drop 0) = true) := ⟨hn⟩
  clear hO h hn
  go_enter Tryz.func93, Tryz.ntmps93
  go_wp2
  go_loopg [4, 5, 6] nm.length (fun g i _ _ wx => ∃ (k : Nat) (σ' : Sg), i = .int .i64 (k : Int) ∧ k ≤ nm.length ∧ Kept (Re B b s st σ' wx) ∧ Kept (Below B w wx) ∧ Kept (if σ'.1 = true then O = .error σ'.2 else Ppa.againF g (nm.drop k) σ'.2 = O) ∧ Kept (Pch.textsL (nm.drop k) = true) ∧ nm.length - k ≤ g)
  case atStart => exact ⟨0, (false, r), rfl, by omega, P0, B0, ⟨by rw [if_neg (by simp)]; exact HO.out⟩, HN, by omega⟩
  case round =>
    obtain ⟨k, ⟨x, r'⟩, rfl, hk, HP, BW, HX, HT, hg⟩ := hrel
    clear P0 B0 HO HN
    have bd := HP.out.c2
    dsimp only at bd
    have k0 : (0 : Int) ≤ (k : Int) := by omega
    have k2 : (k : Int) ≤ 65536 := by omega
    cases x
    · have hX := HX.out
      rw [if_neg (by simp)] at hX
      dsimp only at hX
      by_cases hlt : k < nm.length
      · have hne : nm.drop k ≠ [] := by
          intro e
          have := congrArg List.length e
          rw [List.length_drop] at this
          simp at this
          omega
        obtain ⟨g, rfl⟩ : ∃ g, gk = g + 1 := ⟨gk - 1, by omega⟩
        have k1 : (k : Int) < ((⟨nm.toArray⟩ : ByteArray).size : Int) := by rw [hz]; omega
        have hdl : (nm.drop k).length = nm.length - k := List.length_drop
        have hkk : (⟨nm.toArray⟩ : ByteArray).size - (nm.drop k).length = k := by rw [hz]; omega
        have CN := Kept.mk (fun W => nextc_r (w := W) (s := ⟨nm.toArray⟩) (r := nm.drop k) (by rw [hz]; exact hl) (by rw [hkk]) hne (by rw [hz]; omega) HT.out)
        rw [hkk] at CN
        have hd1 := Lib.decodeL_width (nm.drop k)
        have hd2 := Lib.decodeL_le (nm.drop k) hne
        have hsk : Ppa.skip (nm.drop k) = nm.drop (k + (Lib.decodeL (nm.drop k)).2) := by unfold Ppa.skip; rw [List.drop_drop]
        have htx := (Ppa.texts_step hne HT.out).2.2
        have hpl := peek_lk (r := r') hne HT.out
        have hcp : 0 < (Lib.decodeL (nm.drop k)).1 := by have h := lk_pos hne HT.out; rw [lk_ok hne] at h; exact h
        rw [Ppa.againF, if_neg hne] at hX
        rw [hsk] at hX htx
        obtain ⟨c, hc⟩ : ∃ c, (Lib.decodeL (nm.drop k)).1 = c := ⟨_, rfl⟩
        obtain ⟨d, hd⟩ : ∃ d, (Lib.decodeL (nm.drop k)).2 = d := ⟨_, rfl⟩
        rw [hc] at CN hpl hcp
        rw [hd] at CN hd1 hd2 hX htx
        have CI := Kept.mk (fun (W : World) (H : Re B b s st (false, r') W) => is_e c hcp H)
        have HT2 := Kept.mk htx
        have d0 : (0 : Int) ≤ (d : Int) := by omega
        have d2 : (d : Int) ≤ 65536 := by omega
        by_cases hp : Ppa.peek r' = Ppa.peek (nm.drop k)
        · have hlk := hpl.2 hp
          have hne' : r' ≠ [] := by rintro rfl; rw [lk_nil] at hlk; omega
          rw [if_pos hp] at hX
          have e2 : isS c (false, r') = (false, Ppa.skip r') := by unfold isS; rw [if_pos hlk]
          rw [e2, decide_eq_true hlk] at CI
          have HY := Kept.mk hX
          clear hX HX hp hpl hlk hc hd hsk htx hne
          go_wp2_with (first | (go_at_call 84; refine (CN.out _).mono ?_; rintro e w1 ⟨rfl, hb1⟩; have P1 := Kept.mk (HP.out.below hb1); have B1 := Kept.mk (BW.out.trans (hb1.mono HP.out.hB)); clear hb1 CN) | (go_at_call 53; refine (CI.out _ P1.out).mono ?_; rintro e w2 ⟨rfl, H2, hb2⟩; have P2 := Kept.mk H2; have B2 := Kept.mk (B1.out.trans hb2); clear H2 hb2 CI))
          go_roundg g
          case measure => omega
          case rel => exact ⟨k + d, (false, Ppa.skip r'), by go_num, by omega, P2, B2, ⟨by rw [if_neg (by simp)]; exact HY.out⟩, HT2, by omega⟩
        · have hlk : ¬ lk (false, r') = c := fun e => hp (hpl.1 e)
          rw [if_neg hp] at hX
          have e2 : isS c (false, r') = (false, r') := by unfold isS; rw [if_neg hlk]
          rw [e2, decide_eq_false hlk] at CI
          have HY := Kept.mk hX
          clear hX HX hp hpl hlk hc hd hsk htx hne
          go_wp2_with (first | (go_at_call 84; refine (CN.out _).mono ?_; rintro e w1 ⟨rfl, hb1⟩; have P1 := Kept.mk (HP.out.below hb1); have B1 := Kept.mk (BW.out.trans (hb1.mono HP.out.hB)); clear hb1 CN) | (go_at_call 53; refine (CI.out _ P1.out).mono ?_; rintro e w2 ⟨rfl, H2, hb2⟩; have P2 := Kept.mk H2; have B2 := Kept.mk (B1.out.trans hb2); clear H2 hb2 CI) | (go_at_call 52; refine (no_e P2.out).mono ?_; rintro e w3 ⟨rfl, H3, hb3⟩; have P3 := Kept.mk H3; have B3 := Kept.mk (B2.out.trans hb3); clear H3 hb3))
          go_roundg g
          case measure => omega
          case rel => exact ⟨k + d, (true, r'), by go_num, by omega, P3, B3, ⟨by rw [if_pos rfl]; exact HY.out.symm⟩, HT2, by omega⟩
      · have k1 : ¬ (k : Int) < ((⟨nm.toArray⟩ : ByteArray).size : Int) := by rw [hz]; omega
        have hnil : nm.drop k = [] := List.drop_eq_nil_of_le (by omega)
        have hOO : O = .ok r' := by
          rw [hnil] at hX
          cases gk with
          | zero => exact hX.symm
          | succ g => rw [Ppa.againF, if_pos rfl] at hX; exact hX.symm
        subst hOO
        clear hX HX
        go_wp2
        go_end0
        exact ⟨rfl, HP.out, BW.out⟩
    · have hOO : O = .error r' := by have h := HX.out; rw [if_pos rfl] at h; exact h
      subst hOO
      clear HX
      by_cases hlt : k < nm.length
      · have k1 : (k : Int) < ((⟨nm.toArray⟩ : ByteArray).size : Int) := by rw [hz]; omega
        go_wp2
        go_end0
        exact ⟨rfl, HP.out, BW.out⟩
      · have k1 : ¬ (k : Int) < ((⟨nm.toArray⟩ : ByteArray).size : Int) := by rw [hz]; omega
        go_wp2
        go_end0
        exact ⟨rfl, HP.out, BW.out⟩
end
/-- a reading of content, at fuel f -/
def ContR (B b : Nat) (s : ByteArray) (f : Nat) : Prop := ∀ (p : Int) (d : Nat) (st : Ppa.St) (r : Ppa.Bs) (w : World) (o : Except Ppa.Bs (Ppa.Bs × Ppa.St)), Re B b s st (false, r) w → Ppa.meas st r ≤ 800000 → -1 ≤ p → p ≤ 1000000 → d + r.length ≤ 800000 → Ppa.contF s.size f p d 0 r st = some o →
    Calls Tryz.prog 25 #[.pointer (some ⟨b, 0, none⟩), .int .i64 p, .int .i64 (d : Int)] w fun e w' => e = .returned (.tuple #[]) ∧ EndR B b s o w' ∧ Below B w w'
theorem flush_deep (st : Ppa.St) (p : Int) : (Ppa.flush st p).deep = st.deep := by
  unfold Ppa.flush
  split <;> rfl
theorem flush_set (st : Ppa.St) (p y : Int) : Ppa.flush { st with deep := y } p = { Ppa.flush st p with deep := y } := by
  unfold Ppa.flush
  by_cases h : st.text = []
  · rw [if_pos h, if_pos (show ({ st with deep := y } : Ppa.St).text = [] from h)]
  · rw [if_neg h, if_neg (show ¬ ({ st with deep := y } : Ppa.St).text = [] from h)]
theorem elemS_is (N : Nat) (p : Int) (d : Nat) (r nm : Ppa.Bs) (st : Ppa.St) : Ppa.elemS N p d r nm st = { Ppa.flush st p with deep := (if 60 < d ∧ st.deep < 0 then (N : Int) - r.length - 1 else st.deep), nodes := (Ppa.flush st p).nodes ++ [(2, nm, [], p)] } := by
  unfold Ppa.elemS
  rw [add_other (by decide), flush_set]
section
variable {B b : Nat} {s : ByteArray} {st : Ppa.St} {σ : Sg} {w : World}
theorem Re.c6 (h : Re B b s st σ w) : w.cell? ⟨b, 6, none⟩ = some (.int .i64 st.deep) := by obtain ⟨z, h⟩ := h; exact h.c6
theorem Re.unf (h : Re B b s st σ w) (i : Nat) : w.frozen? ⟨b, i, none⟩ = false := by obtain ⟨z, h⟩ := h; exact h.unf i
def exR (st : Ppa.St) : Except Ppa.Bs Ppa.Bs → Except Ppa.Bs (Ppa.Bs × Ppa.St)
  | .ok r => .ok (r, st)
  | .error r => .error r
theorem endR_ex {x : Except Ppa.Bs Ppa.Bs} (h : Re B b s st (exS x) w) : EndR B b s (exR st x) w := by
  cases x with
  | ok t => exact h
  | error t => exact ⟨st, h⟩
theorem mustB_ex (a r : Ppa.Bs) : mustB a (false, r) = exS (Ppa.mustL a r) := by
  cases h : Ppa.mustL a r with
  | ok t => exact mustB_is.1 t h
  | error t => exact mustB_is.2 t h
theorem close_ex (nm r : Ppa.Bs) : mustB [62] (blanksB (exS (Ppa.againL nm r))) = exS (Ppa.closeM nm r) := by
  unfold Ppa.closeM
  cases Ppa.againL nm r with
  | error t => rfl
  | ok t => exact mustB_ex _ _
theorem endA_bad {r2 : Ppa.Bs} {oA : Except Ppa.Bs (Ppa.Bs × Ppa.St)} (h : EndA B b s oA w) (hb : oA = .error r2 ∨ ∃ s2, oA = .ok (r2, s2) ∧ stopH r2 = false) : ∃ sx, Re B b s sx (true, r2) w := by
  rcases hb with rfl | ⟨s2, rfl, hs⟩
  · exact h
  · have h : Re B b s s2 (!stopH r2, r2) w := h
    rw [hs] at h
    exact ⟨s2, h⟩
theorem endA_good {r2 : Ppa.Bs} {s2 : Ppa.St} (h : EndA B b s (.ok (r2, s2)) w) (hs : stopH r2 = true) : Re B b s s2 (false, r2) w := by
  have h : Re B b s s2 (!stopH r2, r2) w := h
  rw [hs] at h
  exact h
set_option maxRecDepth 100000 in
theorem content_bad {r : Ppa.Bs} (p d : Int) (h : Re B b s st (true, r) w) :
    Calls Tryz.prog 25 #[.pointer (some ⟨b, 0, none⟩), .int .i64 p, .int .i64 d] w fun e w' => e = .returned (.tuple #[]) ∧ Re B b s st (true, r) w' ∧ Below B w w' := by
  have HH := Kept.mk h
  have c2 := h.c2
  dsimp only at c2
  clear h
  go_enter Tryz.func25, Tryz.ntmps25
  go_wp2
  go_loopg [6, 7, 8] 0 (fun g _ _ _ wx => wx = w)
  case atStart => rfl
  case round =>
    subst hrel
    go_wp2
    go_end0
    exact ⟨rfl, HH.out, Below.refl _ _⟩
set_option maxRecDepth 100000 in
set_option maxHeartbeats 8000000 in
theorem relement_any {f : Nat} (ih : ContR B b s f) {r : Ppa.Bs} {o : Except Ppa.Bs (Ppa.Bs × Ppa.St)} (p fr : Int) (d : Nat) (h : Re B b s st (false, r) w) (hm : Ppa.meas st r ≤ 800000) (hd2 : d + r.length ≤ 800000) (hfr : fr = (s.size : Int) - r.length - 1) (he : Ppa.elemF s.size (f + 1) p d r st = some o) :
    Calls Tryz.prog 57 #[.pointer (some ⟨b, 0, none⟩), .int .i64 p, .int .i64 fr, .int .i64 (d : Int)] w fun e w' => e = .returned (.tuple #[]) ∧ EndR B b s o w' ∧ Below B w w' := by
  have hs9 := h.small
  have hll := h.len
  have htx := h.tx
  dsimp only at hll htx
  have hfl := flush_len st p
  have hmm := hm
  unfold Ppa.meas at hmm
  have B0 := Kept.mk (Below.refl B w)
  have CN := Kept.mk (name_e h)
  rw [Ppa.elem_tail] at he
  cases hn : Ppa.nameM r with
  | error t =>
    rw [hn] at he
    rw [nameS_is.2 t hn] at CN
    injection he with he
    subst he
    clear h hn
    go_enter Tryz.func57, Tryz.ntmps57
    go_wp2_with (first | (go_at_call 88; refine (CN.out).mono ?_; rintro e w1 ⟨rfl, H1, hb1⟩; have c2 := H1.c2; have P1 := Kept.mk H1; have B1 := Kept.mk (B0.out.trans hb1); clear H1 hb1 CN))
    refine bodyPost_ret (results_none rfl _ _ _) rfl ?_
    exact ⟨rfl, endR_no P1.out, B1.out⟩
  | ok q =>
    obtain ⟨nm, r1⟩ := q
    rw [hn] at he
    rw [nameS_is.1 nm r1 hn] at CN
    dsimp only at he
    have hnl := Ppa.nameM_lt hn
    have hnm := (Ppa.nameM_ok hn).1
    have hnt := (Ppa.nameM_ok hn).2.2 htx
    have hnx : Pch.textsL nm = true := by rw [hnm] at htx; rw [Pch.texts_right nm r1 hnt] at htx; exact htx
    have hSm := Ppa.elemS_meas s.size p d r nm st r1
    have hS0 := elemS_text s.size p d r nm st
    have hSd := elemS_is s.size p d r nm st
    have hm1 : Ppa.meas st r1 + 4 ≤ Ppa.meas st r := by unfold Ppa.meas; omega
    generalize Ppa.elemS s.size p d r nm st = S at he hSm hS0 hSd
    cases ha : Ppa.attrsF s.size S.nodes.length.pred (f + 1) r1 S with
    | none => rw [ha] at he; cases he
    | some oA =>
      rw [ha] at he
      dsimp only at he
      have hSl : S.nodes.length = (Ppa.flush st p).nodes.length + 1 := by rw [hSd]; simp
      have hpr : S.nodes.length.pred = (Ppa.flush st p).nodes.length := by rw [hSl]; rfl
      rw [hpr] at ha he
      obtain ⟨N0, hN0⟩ : ∃ N0, (Ppa.flush st p).nodes.length = N0 := ⟨_, rfl⟩
      rw [hN0] at ha he hSl hfl
      have CF := Kept.mk (fun (W : World) (H : Re B b s st (false, r1) W) => rflush_any p H (by omega) (by omega))
      have CT := Kept.mk (fun (W : World) (H : Re B b s S (false, r1) W) => rattrs_any H (by omega) (by omega) ha)
      have hFD := flush_deep st p
      have hdeep : (60 < d ∧ st.deep < 0 ∧ S = { ({ Ppa.flush st p with deep := fr } : Ppa.St) with nodes := (Ppa.flush st p).nodes ++ [(2, nm, [], p)] }) ∨ (60 < d ∧ ¬ st.deep < 0 ∧ S = { Ppa.flush st p with nodes := (Ppa.flush st p).nodes ++ [(2, nm, [], p)] }) ∨ (¬ 60 < d ∧ S = { Ppa.flush st p with nodes := (Ppa.flush st p).nodes ++ [(2, nm, [], p)] }) := by
        by_cases h1 : 60 < d
        · by_cases h2 : st.deep < 0
          · exact .inl ⟨h1, h2, by rw [hSd, if_pos ⟨h1, h2⟩, hfr]⟩
          · exact .inr (.inl ⟨h1, h2, by rw [hSd, if_neg (fun h => h2 h.2), ← hFD]⟩)
        · exact .inr (.inr ⟨h1, by rw [hSd, if_neg (fun h => h1 h.1), ← hFD]⟩)
      have HDP := Kept.mk hdeep
      have HFD := Kept.mk hFD
      have hN1 : N0 ≤ 1000000 := by omega
      clear hdeep hSd hSl hpr hFD h hn hnm hfr
      by_cases hbad : ∃ r2, oA = .error r2 ∨ ∃ s2, oA = .ok (r2, s2) ∧ stopH r2 = false
      · obtain ⟨r2, hb⟩ := hbad
        have ho : o = .error r2 := by
          rcases hb with rfl | ⟨s2, rfl, hs⟩
          · injection he with he; exact he.symm
          · have h47 : r2.head? ≠ some 47 := by
              cases r2 with
              | nil => simp
              | cons y u => intro e; injection e with e; subst e; cases hs
            have h62 : r2.head? ≠ some 62 := by
              cases r2 with
              | nil => simp
              | cons y u => intro e; injection e with e; subst e; cases hs
            rw [tail_no h47 (mustL_ne h62)] at he
            injection he with he
            exact he.symm
        subst ho
        have HBB := Kept.mk hb
        clear he hb ha
        rcases HDP.out with ⟨e1, e2, e3⟩ | ⟨e1, e2, e3⟩ | ⟨e1, e3⟩
        · have CA := Kept.mk (fun (W : World) (H : Re B b s { Ppa.flush st p with deep := fr } (false, r1) W) => radd_any 2 nm [] p H (by show (Ppa.flush st p).nodes.length ≤ 1000000; rw [hN0]; exact hN1))
          rw [← e3] at CA
          rw [show ({ Ppa.flush st p with deep := fr } : Ppa.St).nodes.length = N0 from hN0] at CA
          unfold ndV at CA
          have e4 : (60 : Int) < (d : Int) := by omega
          clear HDP e3
          go_enter Tryz.func57, Tryz.ntmps57
          go_wp2_with (first | (go_at_call 88; refine (CN.out).mono ?_; rintro e w1 ⟨rfl, H1, hb1⟩; have c2 := H1.c2; have P1 := Kept.mk H1; have B1 := Kept.mk (B0.out.trans hb1); clear H1 hb1 CN) | (go_at_call 59; refine (CF.out _ P1.out).mono ?_; rintro e w2 ⟨rfl, H2, hb2⟩; have c6 := H2.c6; have f6 := H2.unf 6; rw [HFD.out] at c6; have P2 := Kept.mk H2; have B2 := Kept.mk (B1.out.trans hb2); clear H2 hb2 CF) | (go_at_call 47; refine (CA.out _ (P2.out.deep fr)).mono ?_; rintro e w3 ⟨rfl, H3, hb3⟩; have P3 := Kept.mk H3; have B3 := Kept.mk ((B2.out.setCell (p := ⟨b, 6, none⟩) P2.out.le _).trans hb3); clear H3 hb3 CA) | (go_at_call 92; refine (CT.out _ P3.out).mono ?_; rintro e w5 ⟨rfl, H0, hb5⟩; obtain ⟨sx, H5⟩ := endA_bad H0 HBB.out; have P5 := Kept.mk H5; have B5 := Kept.mk (B3.out.trans hb5); clear H0 H5 hb5 CT) | (go_at_call 53; refine (is_e 47 (by decide) P5.out).mono ?_; rw [(isS_bad (n := 47) (by decide) r2).2, decide_eq_false (isS_bad (n := 47) (by decide) r2).1]; rintro e w6 ⟨rfl, H6, hb6⟩; have P6 := Kept.mk H6; have B6 := Kept.mk (B5.out.trans hb6); clear H6 hb6) | (go_at_call 55; refine (must_e ⟨#[62]⟩ (by decide) (by decide) P6.out).mono ?_; rw [mustB_true]; rintro e w7 ⟨rfl, H7, hb7⟩; have P7 := Kept.mk H7; have B7 := Kept.mk (B6.out.trans hb7); clear H7 hb7) | (go_at_call 25; refine (content_bad _ _ P7.out).mono ?_; rintro e w8 ⟨rfl, H8, hb8⟩; have c8 := H8.c2; have P8 := Kept.mk H8; have B8 := Kept.mk (B7.out.trans hb8); clear H8 hb8))
          refine bodyPost_ret (results_none rfl _ _ _) rfl ?_
          exact ⟨rfl, endR_no P8.out, B8.out⟩
        · have CA := Kept.mk (fun (W : World) (H : Re B b s (Ppa.flush st p) (false, r1) W) => radd_any 2 nm [] p H (by rw [hN0]; exact hN1))
          rw [← e3, hN0] at CA
          unfold ndV at CA
          have e4 : (60 : Int) < (d : Int) := by omega
          clear HDP e3
          go_enter Tryz.func57, Tryz.ntmps57
          go_wp2_with (first | (go_at_call 88; refine (CN.out).mono ?_; rintro e w1 ⟨rfl, H1, hb1⟩; have c2 := H1.c2; have P1 := Kept.mk H1; have B1 := Kept.mk (B0.out.trans hb1); clear H1 hb1 CN) | (go_at_call 59; refine (CF.out _ P1.out).mono ?_; rintro e w2 ⟨rfl, H2, hb2⟩; have c6 := H2.c6; have f6 := H2.unf 6; rw [HFD.out] at c6; have P2 := Kept.mk H2; have B2 := Kept.mk (B1.out.trans hb2); clear H2 hb2 CF) | (go_at_call 47; refine (CA.out _ P2.out).mono ?_; rintro e w3 ⟨rfl, H3, hb3⟩; have P3 := Kept.mk H3; have B3 := Kept.mk (B2.out.trans hb3); clear H3 hb3 CA) | (go_at_call 92; refine (CT.out _ P3.out).mono ?_; rintro e w5 ⟨rfl, H0, hb5⟩; obtain ⟨sx, H5⟩ := endA_bad H0 HBB.out; have P5 := Kept.mk H5; have B5 := Kept.mk (B3.out.trans hb5); clear H0 H5 hb5 CT) | (go_at_call 53; refine (is_e 47 (by decide) P5.out).mono ?_; rw [(isS_bad (n := 47) (by decide) r2).2, decide_eq_false (isS_bad (n := 47) (by decide) r2).1]; rintro e w6 ⟨rfl, H6, hb6⟩; have P6 := Kept.mk H6; have B6 := Kept.mk (B5.out.trans hb6); clear H6 hb6) | (go_at_call 55; refine (must_e ⟨#[62]⟩ (by decide) (by decide) P6.out).mono ?_; rw [mustB_true]; rintro e w7 ⟨rfl, H7, hb7⟩; have P7 := Kept.mk H7; have B7 := Kept.mk (B6.out.trans hb7); clear H7 hb7) | (go_at_call 25; refine (content_bad _ _ P7.out).mono ?_; rintro e w8 ⟨rfl, H8, hb8⟩; have c8 := H8.c2; have P8 := Kept.mk H8; have B8 := Kept.mk (B7.out.trans hb8); clear H8 hb8))
          refine bodyPost_ret (results_none rfl _ _ _) rfl ?_
          exact ⟨rfl, endR_no P8.out, B8.out⟩
        · have CA := Kept.mk (fun (W : World) (H : Re B b s (Ppa.flush st p) (false, r1) W) => radd_any 2 nm [] p H (by rw [hN0]; exact hN1))
          rw [← e3, hN0] at CA
          unfold ndV at CA
          have e4 : ¬ (60 : Int) < (d : Int) := by omega
          clear HDP e3
          go_enter Tryz.func57, Tryz.ntmps57
          go_wp2_with (first | (go_at_call 88; refine (CN.out).mono ?_; rintro e w1 ⟨rfl, H1, hb1⟩; have c2 := H1.c2; have P1 := Kept.mk H1; have B1 := Kept.mk (B0.out.trans hb1); clear H1 hb1 CN) | (go_at_call 59; refine (CF.out _ P1.out).mono ?_; rintro e w2 ⟨rfl, H2, hb2⟩; have c6 := H2.c6; have f6 := H2.unf 6; rw [HFD.out] at c6; have P2 := Kept.mk H2; have B2 := Kept.mk (B1.out.trans hb2); clear H2 hb2 CF) | (go_at_call 47; refine (CA.out _ P2.out).mono ?_; rintro e w3 ⟨rfl, H3, hb3⟩; have P3 := Kept.mk H3; have B3 := Kept.mk (B2.out.trans hb3); clear H3 hb3 CA) | (go_at_call 92; refine (CT.out _ P3.out).mono ?_; rintro e w5 ⟨rfl, H0, hb5⟩; obtain ⟨sx, H5⟩ := endA_bad H0 HBB.out; have P5 := Kept.mk H5; have B5 := Kept.mk (B3.out.trans hb5); clear H0 H5 hb5 CT) | (go_at_call 53; refine (is_e 47 (by decide) P5.out).mono ?_; rw [(isS_bad (n := 47) (by decide) r2).2, decide_eq_false (isS_bad (n := 47) (by decide) r2).1]; rintro e w6 ⟨rfl, H6, hb6⟩; have P6 := Kept.mk H6; have B6 := Kept.mk (B5.out.trans hb6); clear H6 hb6) | (go_at_call 55; refine (must_e ⟨#[62]⟩ (by decide) (by decide) P6.out).mono ?_; rw [mustB_true]; rintro e w7 ⟨rfl, H7, hb7⟩; have P7 := Kept.mk H7; have B7 := Kept.mk (B6.out.trans hb7); clear H7 hb7) | (go_at_call 25; refine (content_bad _ _ P7.out).mono ?_; rintro e w8 ⟨rfl, H8, hb8⟩; have c8 := H8.c2; have P8 := Kept.mk H8; have B8 := Kept.mk (B7.out.trans hb8); clear H8 hb8))
          refine bodyPost_ret (results_none rfl _ _ _) rfl ?_
          exact ⟨rfl, endR_no P8.out, B8.out⟩
      · obtain ⟨r2, s2, rfl, hst2⟩ : ∃ r2 s2, oA = .ok (r2, s2) ∧ stopH r2 = true := by
          cases oA with
          | error r2 => exact absurd ⟨r2, .inl rfl⟩ hbad
          | ok q =>
            obtain ⟨r2, s2⟩ := q
            refine ⟨r2, s2, rfl, ?_⟩
            cases hh : stopH r2 with
            | true => rfl
            | false => exact absurd ⟨r2, .inr ⟨s2, rfl, hh⟩⟩ hbad
        have hAk := Ppa.attrsF_ok _ _ _ _ _ ha
        have HST2 := Kept.mk hst2
        by_cases h47 : r2.head? = some 47
        · obtain ⟨u, rfl⟩ := head_cons h47
          rw [tail_slash] at he
          injection he with he
          have CI := Kept.mk (fun (W : World) (H : Re B b s s2 (false, 47 :: u) W) => is_e 47 (by decide) H)
          have hiy := isS_yes (c := 47) (n := 47) rfl (by decide) u
          rw [hiy.2, decide_eq_true hiy.1] at CI
          have CM := Kept.mk (fun (W : World) (H : Re B b s s2 (false, u) W) => must_e ⟨#[62]⟩ (by decide) (by decide) H)
          rw [show (⟨#[62]⟩ : ByteArray).data.toList = [62] from rfl, mustB_ex] at CM
          have HO : Kept (exR s2 (Ppa.mustL [62] u) = o) := ⟨by rw [← he]; cases Ppa.mustL [62] u <;> rfl⟩
          clear he hbad ha hst2 hiy hAk h47
          rcases HDP.out with ⟨e1, e2, e3⟩ | ⟨e1, e2, e3⟩ | ⟨e1, e3⟩
          · have CA := Kept.mk (fun (W : World) (H : Re B b s { Ppa.flush st p with deep := fr } (false, r1) W) => radd_any 2 nm [] p H (by show (Ppa.flush st p).nodes.length ≤ 1000000; rw [hN0]; exact hN1))
            rw [← e3] at CA
            rw [show ({ Ppa.flush st p with deep := fr } : Ppa.St).nodes.length = N0 from hN0] at CA
            unfold ndV at CA
            have e4 : (60 : Int) < (d : Int) := by omega
            clear HDP e3
            go_enter Tryz.func57, Tryz.ntmps57
            go_wp2_with (first | (go_at_call 88; refine (CN.out).mono ?_; rintro e w1 ⟨rfl, H1, hb1⟩; have c2 := H1.c2; have P1 := Kept.mk H1; have B1 := Kept.mk (B0.out.trans hb1); clear H1 hb1 CN) | (go_at_call 59; refine (CF.out _ P1.out).mono ?_; rintro e w2 ⟨rfl, H2, hb2⟩; have c6 := H2.c6; have f6 := H2.unf 6; rw [HFD.out] at c6; have P2 := Kept.mk H2; have B2 := Kept.mk (B1.out.trans hb2); clear H2 hb2 CF) | (go_at_call 47; refine (CA.out _ (P2.out.deep fr)).mono ?_; rintro e w3 ⟨rfl, H3, hb3⟩; have P3 := Kept.mk H3; have B3 := Kept.mk ((B2.out.setCell (p := ⟨b, 6, none⟩) P2.out.le _).trans hb3); clear H3 hb3 CA) | (go_at_call 92; refine (CT.out _ P3.out).mono ?_; rintro e w5 ⟨rfl, H0, hb5⟩; have H5 := endA_good H0 HST2.out; have P5 := Kept.mk H5; have B5 := Kept.mk (B3.out.trans hb5); clear H0 H5 hb5 CT) | (go_at_call 53; refine (CI.out _ P5.out).mono ?_; rintro e w6 ⟨rfl, H6, hb6⟩; have P6 := Kept.mk H6; have B6 := Kept.mk (B5.out.trans hb6); clear H6 hb6 CI) | (go_at_call 55; refine (CM.out _ P6.out).mono ?_; rintro e w7 ⟨rfl, H7, hb7⟩; have P7 := Kept.mk H7; have B7 := Kept.mk (B6.out.trans hb7); clear H7 hb7 CM))
            refine bodyPost_ret (results_none rfl _ _ _) rfl ?_
            exact ⟨rfl, by rw [← HO.out]; exact endR_ex P7.out, B7.out⟩
          · have CA := Kept.mk (fun (W : World) (H : Re B b s (Ppa.flush st p) (false, r1) W) => radd_any 2 nm [] p H (by rw [hN0]; exact hN1))
            rw [← e3, hN0] at CA
            unfold ndV at CA
            have e4 : (60 : Int) < (d : Int) := by omega
            clear HDP e3
            go_enter Tryz.func57, Tryz.ntmps57
            go_wp2_with (first | (go_at_call 88; refine (CN.out).mono ?_; rintro e w1 ⟨rfl, H1, hb1⟩; have c2 := H1.c2; have P1 := Kept.mk H1; have B1 := Kept.mk (B0.out.trans hb1); clear H1 hb1 CN) | (go_at_call 59; refine (CF.out _ P1.out).mono ?_; rintro e w2 ⟨rfl, H2, hb2⟩; have c6 := H2.c6; have f6 := H2.unf 6; rw [HFD.out] at c6; have P2 := Kept.mk H2; have B2 := Kept.mk (B1.out.trans hb2); clear H2 hb2 CF) | (go_at_call 47; refine (CA.out _ P2.out).mono ?_; rintro e w3 ⟨rfl, H3, hb3⟩; have P3 := Kept.mk H3; have B3 := Kept.mk (B2.out.trans hb3); clear H3 hb3 CA) | (go_at_call 92; refine (CT.out _ P3.out).mono ?_; rintro e w5 ⟨rfl, H0, hb5⟩; have H5 := endA_good H0 HST2.out; have P5 := Kept.mk H5; have B5 := Kept.mk (B3.out.trans hb5); clear H0 H5 hb5 CT) | (go_at_call 53; refine (CI.out _ P5.out).mono ?_; rintro e w6 ⟨rfl, H6, hb6⟩; have P6 := Kept.mk H6; have B6 := Kept.mk (B5.out.trans hb6); clear H6 hb6 CI) | (go_at_call 55; refine (CM.out _ P6.out).mono ?_; rintro e w7 ⟨rfl, H7, hb7⟩; have P7 := Kept.mk H7; have B7 := Kept.mk (B6.out.trans hb7); clear H7 hb7 CM))
            refine bodyPost_ret (results_none rfl _ _ _) rfl ?_
            exact ⟨rfl, by rw [← HO.out]; exact endR_ex P7.out, B7.out⟩
          · have CA := Kept.mk (fun (W : World) (H : Re B b s (Ppa.flush st p) (false, r1) W) => radd_any 2 nm [] p H (by rw [hN0]; exact hN1))
            rw [← e3, hN0] at CA
            unfold ndV at CA
            have e4 : ¬ (60 : Int) < (d : Int) := by omega
            clear HDP e3
            go_enter Tryz.func57, Tryz.ntmps57
            go_wp2_with (first | (go_at_call 88; refine (CN.out).mono ?_; rintro e w1 ⟨rfl, H1, hb1⟩; have c2 := H1.c2; have P1 := Kept.mk H1; have B1 := Kept.mk (B0.out.trans hb1); clear H1 hb1 CN) | (go_at_call 59; refine (CF.out _ P1.out).mono ?_; rintro e w2 ⟨rfl, H2, hb2⟩; have c6 := H2.c6; have f6 := H2.unf 6; rw [HFD.out] at c6; have P2 := Kept.mk H2; have B2 := Kept.mk (B1.out.trans hb2); clear H2 hb2 CF) | (go_at_call 47; refine (CA.out _ P2.out).mono ?_; rintro e w3 ⟨rfl, H3, hb3⟩; have P3 := Kept.mk H3; have B3 := Kept.mk (B2.out.trans hb3); clear H3 hb3 CA) | (go_at_call 92; refine (CT.out _ P3.out).mono ?_; rintro e w5 ⟨rfl, H0, hb5⟩; have H5 := endA_good H0 HST2.out; have P5 := Kept.mk H5; have B5 := Kept.mk (B3.out.trans hb5); clear H0 H5 hb5 CT) | (go_at_call 53; refine (CI.out _ P5.out).mono ?_; rintro e w6 ⟨rfl, H6, hb6⟩; have P6 := Kept.mk H6; have B6 := Kept.mk (B5.out.trans hb6); clear H6 hb6 CI) | (go_at_call 55; refine (CM.out _ P6.out).mono ?_; rintro e w7 ⟨rfl, H7, hb7⟩; have P7 := Kept.mk H7; have B7 := Kept.mk (B6.out.trans hb7); clear H7 hb7 CM))
            refine bodyPost_ret (results_none rfl _ _ _) rfl ?_
            exact ⟨rfl, by rw [← HO.out]; exact endR_ex P7.out, B7.out⟩
        · obtain ⟨u, rfl⟩ : ∃ u, r2 = 62 :: u := by
            cases r2 with
            | nil => cases hst2
            | cons y u =>
              have : y = 47 ∨ y = 62 := by simpa [stopH] using hst2
              rcases this with rfl | rfl
              · exact absurd rfl h47
              · exact ⟨u, rfl⟩
          have hm62 : Ppa.mustL [62] (62 :: u) = .ok u := mustL_eq 62 [] u
          rw [tail_cont h47 hm62] at he
          have CI := Kept.mk (fun (W : World) (H : Re B b s s2 (false, 62 :: u) W) => is_e 47 (by decide) H)
          have hin := isS_no (c := 47) (n := 47) rfl (by decide) (by decide) h47
          rw [hin.2, decide_eq_false hin.1] at CI
          have CM := Kept.mk (fun (W : World) (H : Re B b s s2 (false, 62 :: u) W) => must_e ⟨#[62]⟩ (by decide) (by decide) H)
          rw [show (⟨#[62]⟩ : ByteArray).data.toList = [62] from rfl, mustB_is.1 u hm62] at CM
          have hul : u.length + 1 ≤ r1.length := hAk.1.length_le
          have hmu : Ppa.meas s2 u ≤ 800000 := by
            have := hAk.2.1
            have h9 : Ppa.meas s2 u ≤ Ppa.meas s2 (62 :: u) := by unfold Ppa.meas; simp; omega
            omega
          cases hc : Ppa.contF s.size f (N0 : Int) d 0 u s2 with
          | none => rw [hc] at he; cases he
          | some oc =>
            rw [hc] at he
            have CC := Kept.mk (fun (W : World) (H : Re B b s s2 (false, u) W) => ih (N0 : Int) d s2 u W oc H hmu (by omega) (by omega) (by omega) hc)
            cases oc with
            | error r4 =>
              injection he with he
              subst he
              clear hbad ha hst2 hin hAk h47 hc hm62
              rcases HDP.out with ⟨e1, e2, e3⟩ | ⟨e1, e2, e3⟩ | ⟨e1, e3⟩
              · have CA := Kept.mk (fun (W : World) (H : Re B b s { Ppa.flush st p with deep := fr } (false, r1) W) => radd_any 2 nm [] p H (by show (Ppa.flush st p).nodes.length ≤ 1000000; rw [hN0]; exact hN1))
                rw [← e3] at CA
                rw [show ({ Ppa.flush st p with deep := fr } : Ppa.St).nodes.length = N0 from hN0] at CA
                unfold ndV at CA
                have e4 : (60 : Int) < (d : Int) := by omega
                clear HDP e3
                go_enter Tryz.func57, Tryz.ntmps57
                go_wp2_with (first | (go_at_call 88; refine (CN.out).mono ?_; rintro e w1 ⟨rfl, H1, hb1⟩; have c2 := H1.c2; have P1 := Kept.mk H1; have B1 := Kept.mk (B0.out.trans hb1); clear H1 hb1 CN) | (go_at_call 59; refine (CF.out _ P1.out).mono ?_; rintro e w2 ⟨rfl, H2, hb2⟩; have c6 := H2.c6; have f6 := H2.unf 6; rw [HFD.out] at c6; have P2 := Kept.mk H2; have B2 := Kept.mk (B1.out.trans hb2); clear H2 hb2 CF) | (go_at_call 47; refine (CA.out _ (P2.out.deep fr)).mono ?_; rintro e w3 ⟨rfl, H3, hb3⟩; have P3 := Kept.mk H3; have B3 := Kept.mk ((B2.out.setCell (p := ⟨b, 6, none⟩) P2.out.le _).trans hb3); clear H3 hb3 CA) | (go_at_call 92; refine (CT.out _ P3.out).mono ?_; rintro e w5 ⟨rfl, H0, hb5⟩; have H5 := endA_good H0 HST2.out; have P5 := Kept.mk H5; have B5 := Kept.mk (B3.out.trans hb5); clear H0 H5 hb5 CT) | (go_at_call 53; refine (CI.out _ P5.out).mono ?_; rintro e w6 ⟨rfl, H6, hb6⟩; have P6 := Kept.mk H6; have B6 := Kept.mk (B5.out.trans hb6); clear H6 hb6 CI) | (go_at_call 55; refine (CM.out _ P6.out).mono ?_; rintro e w7 ⟨rfl, H7, hb7⟩; have P7 := Kept.mk H7; have B7 := Kept.mk (B6.out.trans hb7); clear H7 hb7 CM) | (go_at_call 25; refine (CC.out _ P7.out).mono ?_; rintro e w8 ⟨rfl, ⟨s4, H8⟩, hb8⟩; have c8 := H8.c2; have P8 := Kept.mk H8; have B8 := Kept.mk (B7.out.trans hb8); clear H8 hb8 CC))
                refine bodyPost_ret (results_none rfl _ _ _) rfl ?_
                exact ⟨rfl, ⟨_, P8.out⟩, B8.out⟩
              · have CA := Kept.mk (fun (W : World) (H : Re B b s (Ppa.flush st p) (false, r1) W) => radd_any 2 nm [] p H (by rw [hN0]; exact hN1))
                rw [← e3, hN0] at CA
                unfold ndV at CA
                have e4 : (60 : Int) < (d : Int) := by omega
                clear HDP e3
                go_enter Tryz.func57, Tryz.ntmps57
                go_wp2_with (first | (go_at_call 88; refine (CN.out).mono ?_; rintro e w1 ⟨rfl, H1, hb1⟩; have c2 := H1.c2; have P1 := Kept.mk H1; have B1 := Kept.mk (B0.out.trans hb1); clear H1 hb1 CN) | (go_at_call 59; refine (CF.out _ P1.out).mono ?_; rintro e w2 ⟨rfl, H2, hb2⟩; have c6 := H2.c6; have f6 := H2.unf 6; rw [HFD.out] at c6; have P2 := Kept.mk H2; have B2 := Kept.mk (B1.out.trans hb2); clear H2 hb2 CF) | (go_at_call 47; refine (CA.out _ P2.out).mono ?_; rintro e w3 ⟨rfl, H3, hb3⟩; have P3 := Kept.mk H3; have B3 := Kept.mk (B2.out.trans hb3); clear H3 hb3 CA) | (go_at_call 92; refine (CT.out _ P3.out).mono ?_; rintro e w5 ⟨rfl, H0, hb5⟩; have H5 := endA_good H0 HST2.out; have P5 := Kept.mk H5; have B5 := Kept.mk (B3.out.trans hb5); clear H0 H5 hb5 CT) | (go_at_call 53; refine (CI.out _ P5.out).mono ?_; rintro e w6 ⟨rfl, H6, hb6⟩; have P6 := Kept.mk H6; have B6 := Kept.mk (B5.out.trans hb6); clear H6 hb6 CI) | (go_at_call 55; refine (CM.out _ P6.out).mono ?_; rintro e w7 ⟨rfl, H7, hb7⟩; have P7 := Kept.mk H7; have B7 := Kept.mk (B6.out.trans hb7); clear H7 hb7 CM) | (go_at_call 25; refine (CC.out _ P7.out).mono ?_; rintro e w8 ⟨rfl, ⟨s4, H8⟩, hb8⟩; have c8 := H8.c2; have P8 := Kept.mk H8; have B8 := Kept.mk (B7.out.trans hb8); clear H8 hb8 CC))
                refine bodyPost_ret (results_none rfl _ _ _) rfl ?_
                exact ⟨rfl, ⟨_, P8.out⟩, B8.out⟩
              · have CA := Kept.mk (fun (W : World) (H : Re B b s (Ppa.flush st p) (false, r1) W) => radd_any 2 nm [] p H (by rw [hN0]; exact hN1))
                rw [← e3, hN0] at CA
                unfold ndV at CA
                have e4 : ¬ (60 : Int) < (d : Int) := by omega
                clear HDP e3
                go_enter Tryz.func57, Tryz.ntmps57
                go_wp2_with (first | (go_at_call 88; refine (CN.out).mono ?_; rintro e w1 ⟨rfl, H1, hb1⟩; have c2 := H1.c2; have P1 := Kept.mk H1; have B1 := Kept.mk (B0.out.trans hb1); clear H1 hb1 CN) | (go_at_call 59; refine (CF.out _ P1.out).mono ?_; rintro e w2 ⟨rfl, H2, hb2⟩; have c6 := H2.c6; have f6 := H2.unf 6; rw [HFD.out] at c6; have P2 := Kept.mk H2; have B2 := Kept.mk (B1.out.trans hb2); clear H2 hb2 CF) | (go_at_call 47; refine (CA.out _ P2.out).mono ?_; rintro e w3 ⟨rfl, H3, hb3⟩; have P3 := Kept.mk H3; have B3 := Kept.mk (B2.out.trans hb3); clear H3 hb3 CA) | (go_at_call 92; refine (CT.out _ P3.out).mono ?_; rintro e w5 ⟨rfl, H0, hb5⟩; have H5 := endA_good H0 HST2.out; have P5 := Kept.mk H5; have B5 := Kept.mk (B3.out.trans hb5); clear H0 H5 hb5 CT) | (go_at_call 53; refine (CI.out _ P5.out).mono ?_; rintro e w6 ⟨rfl, H6, hb6⟩; have P6 := Kept.mk H6; have B6 := Kept.mk (B5.out.trans hb6); clear H6 hb6 CI) | (go_at_call 55; refine (CM.out _ P6.out).mono ?_; rintro e w7 ⟨rfl, H7, hb7⟩; have P7 := Kept.mk H7; have B7 := Kept.mk (B6.out.trans hb7); clear H7 hb7 CM) | (go_at_call 25; refine (CC.out _ P7.out).mono ?_; rintro e w8 ⟨rfl, ⟨s4, H8⟩, hb8⟩; have c8 := H8.c2; have P8 := Kept.mk H8; have B8 := Kept.mk (B7.out.trans hb8); clear H8 hb8 CC))
                refine bodyPost_ret (results_none rfl _ _ _) rfl ?_
                exact ⟨rfl, ⟨_, P8.out⟩, B8.out⟩
            | ok q4 =>
              obtain ⟨r4, s4⟩ := q4
              injection he with he
              have CG := Kept.mk (fun (W : World) (H : Re B b s s4 (false, r4) W) => ragain_any H hnx (by omega))
              have CB := Kept.mk (fun (W : World) (H : Re B b s s4 (exS (Ppa.againL nm r4)) W) => blanks_e H)
              have CM2 := Kept.mk (fun (W : World) (H : Re B b s s4 (blanksB (exS (Ppa.againL nm r4))) W) => must_e ⟨#[62]⟩ (by decide) (by decide) H)
              rw [show (⟨#[62]⟩ : ByteArray).data.toList = [62] from rfl, close_ex] at CM2
              generalize blanksB (exS (Ppa.againL nm r4)) = σ9 at CB CM2
              generalize exS (Ppa.againL nm r4) = σ8 at CG CB
              have HO : Kept (exR s4 (Ppa.closeM nm r4) = o) := ⟨by rw [← he]; cases Ppa.closeM nm r4 <;> rfl⟩
              clear he hbad ha hst2 hin hAk h47 hc hm62
              rcases HDP.out with ⟨e1, e2, e3⟩ | ⟨e1, e2, e3⟩ | ⟨e1, e3⟩
              · have CA := Kept.mk (fun (W : World) (H : Re B b s { Ppa.flush st p with deep := fr } (false, r1) W) => radd_any 2 nm [] p H (by show (Ppa.flush st p).nodes.length ≤ 1000000; rw [hN0]; exact hN1))
                rw [← e3] at CA
                rw [show ({ Ppa.flush st p with deep := fr } : Ppa.St).nodes.length = N0 from hN0] at CA
                unfold ndV at CA
                have e4 : (60 : Int) < (d : Int) := by omega
                clear HDP e3
                go_enter Tryz.func57, Tryz.ntmps57
                go_wp2_with (first | (go_at_call 88; refine (CN.out).mono ?_; rintro e w1 ⟨rfl, H1, hb1⟩; have c2 := H1.c2; have P1 := Kept.mk H1; have B1 := Kept.mk (B0.out.trans hb1); clear H1 hb1 CN) | (go_at_call 59; refine (CF.out _ P1.out).mono ?_; rintro e w2 ⟨rfl, H2, hb2⟩; have c6 := H2.c6; have f6 := H2.unf 6; rw [HFD.out] at c6; have P2 := Kept.mk H2; have B2 := Kept.mk (B1.out.trans hb2); clear H2 hb2 CF) | (go_at_call 47; refine (CA.out _ (P2.out.deep fr)).mono ?_; rintro e w3 ⟨rfl, H3, hb3⟩; have P3 := Kept.mk H3; have B3 := Kept.mk ((B2.out.setCell (p := ⟨b, 6, none⟩) P2.out.le _).trans hb3); clear H3 hb3 CA) | (go_at_call 92; refine (CT.out _ P3.out).mono ?_; rintro e w5 ⟨rfl, H0, hb5⟩; have H5 := endA_good H0 HST2.out; have P5 := Kept.mk H5; have B5 := Kept.mk (B3.out.trans hb5); clear H0 H5 hb5 CT) | (go_at_call 53; refine (CI.out _ P5.out).mono ?_; rintro e w6 ⟨rfl, H6, hb6⟩; have P6 := Kept.mk H6; have B6 := Kept.mk (B5.out.trans hb6); clear H6 hb6 CI) | (go_at_call 55; refine (CM.out _ P6.out).mono ?_; rintro e w7 ⟨rfl, H7, hb7⟩; have P7 := Kept.mk H7; have B7 := Kept.mk (B6.out.trans hb7); clear H7 hb7 CM) | (go_at_call 25; refine (CC.out _ P7.out).mono ?_; rintro e w8 ⟨rfl, H0, hb8⟩; have H8 : Re B b s s4 (false, r4) w8 := H0; have c8 := H8.c2; have P8 := Kept.mk H8; have B8 := Kept.mk (B7.out.trans hb8); clear H0 H8 hb8 CC) | (go_at_call 93; refine (CG.out _ P8.out).mono ?_; rintro e w9 ⟨rfl, H9, hb9⟩; have P9 := Kept.mk H9; have B9 := Kept.mk (B8.out.trans hb9); clear H9 hb9 CG) | (go_at_call 86; refine (CB.out _ P9.out).mono ?_; rintro e w10 ⟨rfl, H10, hb10⟩; have P10 := Kept.mk H10; have B10 := Kept.mk (B9.out.trans hb10); clear H10 hb10 CB) | (go_at_call 55; refine (CM2.out _ P10.out).mono ?_; rintro e w11 ⟨rfl, H11, hb11⟩; have P11 := Kept.mk H11; have B11 := Kept.mk (B10.out.trans hb11); clear H11 hb11 CM2))
                go_end0
                exact ⟨rfl, by rw [← HO.out]; exact endR_ex P11.out, B11.out⟩
              · have CA := Kept.mk (fun (W : World) (H : Re B b s (Ppa.flush st p) (false, r1) W) => radd_any 2 nm [] p H (by rw [hN0]; exact hN1))
                rw [← e3, hN0] at CA
                unfold ndV at CA
                have e4 : (60 : Int) < (d : Int) := by omega
                clear HDP e3
                go_enter Tryz.func57, Tryz.ntmps57
                go_wp2_with (first | (go_at_call 88; refine (CN.out).mono ?_; rintro e w1 ⟨rfl, H1, hb1⟩; have c2 := H1.c2; have P1 := Kept.mk H1; have B1 := Kept.mk (B0.out.trans hb1); clear H1 hb1 CN) | (go_at_call 59; refine (CF.out _ P1.out).mono ?_; rintro e w2 ⟨rfl, H2, hb2⟩; have c6 := H2.c6; have f6 := H2.unf 6; rw [HFD.out] at c6; have P2 := Kept.mk H2; have B2 := Kept.mk (B1.out.trans hb2); clear H2 hb2 CF) | (go_at_call 47; refine (CA.out _ P2.out).mono ?_; rintro e w3 ⟨rfl, H3, hb3⟩; have P3 := Kept.mk H3; have B3 := Kept.mk (B2.out.trans hb3); clear H3 hb3 CA) | (go_at_call 92; refine (CT.out _ P3.out).mono ?_; rintro e w5 ⟨rfl, H0, hb5⟩; have H5 := endA_good H0 HST2.out; have P5 := Kept.mk H5; have B5 := Kept.mk (B3.out.trans hb5); clear H0 H5 hb5 CT) | (go_at_call 53; refine (CI.out _ P5.out).mono ?_; rintro e w6 ⟨rfl, H6, hb6⟩; have P6 := Kept.mk H6; have B6 := Kept.mk (B5.out.trans hb6); clear H6 hb6 CI) | (go_at_call 55; refine (CM.out _ P6.out).mono ?_; rintro e w7 ⟨rfl, H7, hb7⟩; have P7 := Kept.mk H7; have B7 := Kept.mk (B6.out.trans hb7); clear H7 hb7 CM) | (go_at_call 25; refine (CC.out _ P7.out).mono ?_; rintro e w8 ⟨rfl, H0, hb8⟩; have H8 : Re B b s s4 (false, r4) w8 := H0; have c8 := H8.c2; have P8 := Kept.mk H8; have B8 := Kept.mk (B7.out.trans hb8); clear H0 H8 hb8 CC) | (go_at_call 93; refine (CG.out _ P8.out).mono ?_; rintro e w9 ⟨rfl, H9, hb9⟩; have P9 := Kept.mk H9; have B9 := Kept.mk (B8.out.trans hb9); clear H9 hb9 CG) | (go_at_call 86; refine (CB.out _ P9.out).mono ?_; rintro e w10 ⟨rfl, H10, hb10⟩; have P10 := Kept.mk H10; have B10 := Kept.mk (B9.out.trans hb10); clear H10 hb10 CB) | (go_at_call 55; refine (CM2.out _ P10.out).mono ?_; rintro e w11 ⟨rfl, H11, hb11⟩; have P11 := Kept.mk H11; have B11 := Kept.mk (B10.out.trans hb11); clear H11 hb11 CM2))
                go_end0
                exact ⟨rfl, by rw [← HO.out]; exact endR_ex P11.out, B11.out⟩
              · have CA := Kept.mk (fun (W : World) (H : Re B b s (Ppa.flush st p) (false, r1) W) => radd_any 2 nm [] p H (by rw [hN0]; exact hN1))
                rw [← e3, hN0] at CA
                unfold ndV at CA
                have e4 : ¬ (60 : Int) < (d : Int) := by omega
                clear HDP e3
                go_enter Tryz.func57, Tryz.ntmps57
                go_wp2_with (first | (go_at_call 88; refine (CN.out).mono ?_; rintro e w1 ⟨rfl, H1, hb1⟩; have c2 := H1.c2; have P1 := Kept.mk H1; have B1 := Kept.mk (B0.out.trans hb1); clear H1 hb1 CN) | (go_at_call 59; refine (CF.out _ P1.out).mono ?_; rintro e w2 ⟨rfl, H2, hb2⟩; have c6 := H2.c6; have f6 := H2.unf 6; rw [HFD.out] at c6; have P2 := Kept.mk H2; have B2 := Kept.mk (B1.out.trans hb2); clear H2 hb2 CF) | (go_at_call 47; refine (CA.out _ P2.out).mono ?_; rintro e w3 ⟨rfl, H3, hb3⟩; have P3 := Kept.mk H3; have B3 := Kept.mk (B2.out.trans hb3); clear H3 hb3 CA) | (go_at_call 92; refine (CT.out _ P3.out).mono ?_; rintro e w5 ⟨rfl, H0, hb5⟩; have H5 := endA_good H0 HST2.out; have P5 := Kept.mk H5; have B5 := Kept.mk (B3.out.trans hb5); clear H0 H5 hb5 CT) | (go_at_call 53; refine (CI.out _ P5.out).mono ?_; rintro e w6 ⟨rfl, H6, hb6⟩; have P6 := Kept.mk H6; have B6 := Kept.mk (B5.out.trans hb6); clear H6 hb6 CI) | (go_at_call 55; refine (CM.out _ P6.out).mono ?_; rintro e w7 ⟨rfl, H7, hb7⟩; have P7 := Kept.mk H7; have B7 := Kept.mk (B6.out.trans hb7); clear H7 hb7 CM) | (go_at_call 25; refine (CC.out _ P7.out).mono ?_; rintro e w8 ⟨rfl, H0, hb8⟩; have H8 : Re B b s s4 (false, r4) w8 := H0; have c8 := H8.c2; have P8 := Kept.mk H8; have B8 := Kept.mk (B7.out.trans hb8); clear H0 H8 hb8 CC) | (go_at_call 93; refine (CG.out _ P8.out).mono ?_; rintro e w9 ⟨rfl, H9, hb9⟩; have P9 := Kept.mk H9; have B9 := Kept.mk (B8.out.trans hb9); clear H9 hb9 CG) | (go_at_call 86; refine (CB.out _ P9.out).mono ?_; rintro e w10 ⟨rfl, H10, hb10⟩; have P10 := Kept.mk H10; have B10 := Kept.mk (B9.out.trans hb10); clear H10 hb10 CB) | (go_at_call 55; refine (CM2.out _ P10.out).mono ?_; rintro e w11 ⟨rfl, H11, hb11⟩; have P11 := Kept.mk H11; have B11 := Kept.mk (B10.out.trans hb11); clear H11 hb11 CM2))
                go_end0
                exact ⟨rfl, by rw [← HO.out]; exact endR_ex P11.out, B11.out⟩
end
end Go.Proofs.YtlemdhfekdiaeaaGreatDoor.Wrd
namespace Go.Proofs.YtlemdhfekdiaeaaGreatDoor.Wrd
open Go Go.RowKit Go.Proofs.YtlemdhfekdiaeaaGreatDoor.Kb Go.Proofs.YtlemdhfekdiaeaaGreatDoor.Wch Go.Proofs.YtlemdhfekdiaeaaGreatDoor.Wps Go.Proofs.YtlemdhfekdiaeaaGreatDoor.Emk Go.PlainAid

theorem contF_few {N : Nat} {p : Int} {d : Nat} : ∀ (m : Nat) (u t : Ppa.Bs) (run : Nat) (st : Ppa.St), (∀ y ∈ u, 128 ≤ y.toNat) → m ≤ u.length → Ppa.contF N m p d run (u ++ t) st = none
  | 0, u, t, run, st, _, _ => by rw [Ppa.contF]
  | m + 1, [], t, run, st, _, h => by simp at h
  | m + 1, x :: u, t, run, st, hu, h => by
    rw [List.cons_append, Ppa.contF_high N m p d run x (u ++ t) st (hu x (by simp))]
    exact contF_few m u t 0 _ (fun y hy => hu y (by simp [hy])) (by simpa using h)
theorem cont_few {N g : Nat} {p : Int} {d run : Nat} {r : Ppa.Bs} {st : Ppa.St} {o : Except Ppa.Bs (Ppa.Bs × Ppa.St)} (hne : r ≠ []) (ht : Pch.textsL r = true) (h : Ppa.contF N (g + 1) p d run r st = some o) : (Lib.decodeL r).2 ≤ g + 1 := by
  cases r with
  | nil => exact absurd rfl hne
  | cons y t =>
    rcases Nat.lt_or_ge y.toNat 128 with hy | hy
    · rw [Lib.decodeL_ascii y t hy]
      exact Nat.le_add_left 1 g
    · rcases Nat.lt_or_ge (g + 1) (Lib.decodeL (y :: t)).2 with hlt | hge
      · exfalso
        have hb := Ppa.char_high hy ht
        have hle := Lib.decodeL_le (y :: t) hne
        have h2 := contF_few (N := N) (p := p) (d := d) (g + 1) ((y :: t).take (Lib.decodeL (y :: t)).2) ((y :: t).drop (Lib.decodeL (y :: t)).2) run st hb (by rw [List.length_take]; omega)
        rw [List.take_append_drop, h] at h2
        cases h2
      · exact hge
theorem contF_char {N f : Nat} {p : Int} {d run : Nat} {r : Ppa.Bs} {st : Ppa.St} (hne : r ≠ []) (ht : Pch.textsL r = true) (h1 : ¬ (r.head? = some 62 ∧ 2 ≤ run)) (h2 : r.head? ≠ some 60) (h3 : r.head? ≠ some 38) (h4 : r.head? ≠ some 13) : Ppa.contF N (f + (Lib.decodeL r).2) p d run r st = Ppa.contF N f p d (if r.head? = some 93 then run + 1 else 0) (Ppa.skip r) { st with text := st.text ++ r.take (Lib.decodeL r).2 } := by
  cases r with
  | nil => exact absurd rfl hne
  | cons y t =>
    rcases Nat.lt_or_ge y.toNat 128 with hy | hy
    · rw [Lib.decodeL_ascii y t hy, skip_low y t hy]
      have e1 : ¬ (y = 62 ∧ 2 ≤ run) := fun e => h1 ⟨by rw [e.1]; rfl, e.2⟩
      have e2 : ¬ y = 60 := fun e => h2 (by rw [e]; rfl)
      have e3 : ¬ y = 38 := fun e => h3 (by rw [e]; rfl)
      have e4 : ¬ y = 13 := fun e => h4 (by rw [e]; rfl)
      show Ppa.contF N (f + 1) p d run (y :: t) st = _
      rw [cont_char e1 e2 e3 e4]
      have e5 : ((y :: t).head? = some 93) = (y = 93) := by simp
      simp only [e5]
      rfl
    · have hb := Ppa.char_high hy ht
      have hle := Lib.decodeL_le (y :: t) hne
      have hne2 : (y :: t).take (Lib.decodeL (y :: t)).2 ≠ [] := by
        have := Lib.decodeL_width (y :: t)
        intro e
        have := congrArg List.length e
        rw [List.length_take] at this
        simp at this
        omega
      have h := Ppa.contF_copy N ((y :: t).take (Lib.decodeL (y :: t)).2) f p d run ((y :: t).drop (Lib.decodeL (y :: t)).2) st hne2 hb
      rw [List.take_append_drop, List.length_take, Nat.min_eq_left hle] at h
      rw [h, if_neg (by intro e; injection e with e; subst e; revert hy; decide)]
      rfl
section
variable {B b : Nat} {s : ByteArray} {st : Ppa.St} {σ : Sg} {w : World}
/-- a reading of what stands behind a <, at fuel f -/
def MarkR (B b : Nat) (s : ByteArray) (f : Nat) : Prop := ∀ (p fr : Int) (d : Nat) (st : Ppa.St) (r : Ppa.Bs) (w : World) (o : Except Ppa.Bs (Ppa.Bs × Ppa.St)), Re B b s st (false, r) w → Ppa.meas st r ≤ 800000 → -1 ≤ p → p ≤ 1000000 → d + 1 + r.length ≤ 800000 → fr = (s.size : Int) - r.length - 1 → Ppa.markF s.size f p d r st = some o →
    Calls Tryz.prog 60 #[.pointer (some ⟨b, 0, none⟩), .int .i64 p, .int .i64 fr, .int .i64 (d : Int)] w fun e w' => e = .returned (.tuple #[]) ∧ EndR B b s o w' ∧ Below B w w'
/-- how a content goes on -/
def ContX (N : Nat) (p : Int) (d : Nat) (o : Except Ppa.Bs (Ppa.Bs × Ppa.St)) (R g run : Nat) (st : Ppa.St) (σ : Sg) : Prop := if σ.1 = true then o = .error σ.2 else Ppa.contF N g p d run σ.2 st = some o ∧ Ppa.meas st σ.2 ≤ 800000 ∧ σ.2.length ≤ R
theorem contX_bad {N : Nat} {p : Int} {d R g run : Nat} {st : Ppa.St} {t : Ppa.Bs} : ContX N p d (.error t) R g run st (true, t) := by unfold ContX; rw [if_pos rfl]
theorem contX_good {N : Nat} {p : Int} {d R g run : Nat} {st : Ppa.St} {t : Ppa.Bs} {o : Except Ppa.Bs (Ppa.Bs × Ppa.St)} (h : Ppa.contF N g p d run t st = some o) (hm : Ppa.meas st t ≤ 800000) (hr : t.length ≤ R) : ContX N p d o R g run st (false, t) := by unfold ContX; rw [if_neg (by simp)]; exact ⟨h, hm, hr⟩
theorem endR_look {o : Except Ppa.Bs (Ppa.Bs × Ppa.St)} (h : EndR B b s o w) : ∃ x, w.cell? ⟨b, 2, none⟩ = some (.bool x) := by
  cases o with
  | ok q => exact ⟨_, Re.c2 (σ := (false, q.1)) (st := q.2) h⟩
  | error t => obtain ⟨s2, h⟩ := h; exact ⟨_, Re.c2 h⟩
theorem Re.c0 (h : Re B b s st σ w) : w.cell? ⟨b, 0, none⟩ = some (.string s) := by obtain ⟨z, h⟩ := h; exact h.c0
theorem endR_hB {o : Except Ppa.Bs (Ppa.Bs × Ppa.St)} (h : EndR B b s o w) : B ≤ w.heap.size := by
  cases o with
  | ok q => exact Re.hB (σ := (false, q.1)) (st := q.2) h
  | error t => obtain ⟨s2, h⟩ := h; exact Re.hB h
set_option maxRecDepth 100000 in
set_option maxHeartbeats 16000000 in
theorem rcontent_any {f : Nat} (ihM : ∀ g, g < f → MarkR B b s g) : ContR B b s f := by
  intro p d st r w o h hm hp1 hp2 hd he
  have hs9 := h.small
  have HX0 : Kept (ContX s.size p d o r.length f 0 st (false, r)) := ⟨contX_good he hm (Nat.le_refl _)⟩
  have P0 := Kept.mk h
  have B0 := Kept.mk (Below.refl B w)
  have hl0 := h.len
  dsimp only at hl0
  clear h he hm
  go_enter Tryz.func25, Tryz.ntmps25
  go_wp2
  go_loopg [6, 7, 8] f (fun g v6 _ _ wx => ∃ (st' : Ppa.St) (σ' : Sg) (run : Nat), v6 = .int .i64 (run : Int) ∧ Kept (Re B b s st' σ' wx) ∧ Kept (Below B w wx) ∧ Kept (ContX s.size p d o r.length g run st' σ') ∧ g ≤ f ∧ run + σ'.2.length ≤ 70000)
  case atStart => exact ⟨st, (false, r), 0, rfl, P0, B0, HX0, Nat.le_refl _, by dsimp only; omega⟩
  case round =>
    obtain ⟨st', ⟨x, r'⟩, run, rfl, HP, BW, HX, hgf, hrun⟩ := hrel
    clear P0 B0 HX0
    have bd := HP.out.c2
    dsimp only at bd hrun
    have hX := HX.out
    unfold ContX at hX
    cases x
    · rw [if_neg (by simp)] at hX
      obtain ⟨hF, hmm, hrR⟩ := hX
      dsimp only at hF hmm hrR
      obtain ⟨g, rfl⟩ : ∃ g, gk = g + 1 := by
        cases gk with
        | zero => exfalso; rw [Ppa.contF] at hF; cases hF
        | succ g => exact ⟨g, rfl⟩
      have hll := HP.out.len
      have htx := HP.out.tx
      dsimp only at hll htx
      have hm9 := hmm
      unfold Ppa.meas at hm9
      obtain ⟨k, hk⟩ : ∃ k, s.size - r'.length = k := ⟨_, rfl⟩
      have CL := Kept.mk (look_e HP.out)
      have r0 : (0 : Int) ≤ (run : Int) := by omega
      have r1 : (run : Int) ≤ 70000 := by omega
      by_cases c0 : lk (false, r') = 0
      · have hnil : r' = [] := by
          by_cases hn : r' = []
          · exact hn
          · have := lk_pos hn htx; omega
        subst hnil
        rw [c0] at CL
        have hks : (k : Int) = (s.size : Int) := by simp at hk; omega
        by_cases hp : p < 0
        · rw [cont_end hp] at hF
          injection hF with hF
          subst hF
          have CF := Kept.mk (fun (W : World) (H : Re B b s st' (false, []) W) => rflush_any p H (by omega) (by omega))
          clear HX c0
          go_wp2_with (first | (go_at_call 50; refine (CL.out).mono ?_; rintro e w2 ⟨rfl, H2, hb2⟩; have d1 := H2.c1; dsimp only at d1; rw [hk] at d1; have P2 := Kept.mk H2; have B2 := Kept.mk (BW.out.trans hb2); clear H2 hb2 CL))
          obtain ⟨k9, hk9, bx1⟩ : ∃ k9 : Nat, k9 = k ∧ ∀ x : Beh w2, x.fin.cell? ⟨b, 1, none⟩ = some (.int .i64 (k : Int)) := ⟨k, rfl, beh_cell d1⟩
          have bx0 := beh_cell P2.out.c0
          refine wp_region_beh (by kernel_rfl) (by kernel_rfl) ?_
          repeat
            (refine Qw_step (fun K hK => ?_)
             go_simp
             first
               | (refine hK _ ?_; clear hK K)
               | (apply Exists.intro
                  refine ⟨fun _ => ?_, hK _ ?_⟩
                  (fail)
                  clear hK K))
          refine Qw_nil ?_
          rintro w5 ⟨⟨_, hb5⟩, rfl⟩
          have P5 := Kept.mk (P2.out.below hb5)
          have B5 := Kept.mk (B2.out.trans (hb5.mono P2.out.hB))
          clear hb5 bx0 bx1
          go_wp2_with (first | (go_at_call 59; refine (CF.out _ P5.out).mono ?_; rintro e w6 ⟨rfl, H6, hb6⟩; have P6 := Kept.mk H6; have B6 := Kept.mk (B5.out.trans hb6); clear H6 hb6 CF))
          refine bodyPost_ret (results_none rfl _ _ _) rfl ?_
          exact ⟨rfl, endR_ok P6.out, B6.out⟩
        · rw [cont_lack hp] at hF
          have hpp : 0 ≤ p := by omega
          have hpd : decide (p < 0) = false := by simpa using hpp
          injection hF with hF
          subst hF
          clear HX c0 hks
          go_wp2_with (first | (go_at_call 50; refine (CL.out).mono ?_; rintro e w2 ⟨rfl, H2, hb2⟩; have d1 := H2.c1; dsimp only at d1; rw [hk] at d1; have P2 := Kept.mk H2; have B2 := Kept.mk (BW.out.trans hb2); clear H2 hb2 CL))
          obtain ⟨k9, hk9, bx1⟩ : ∃ k9 : Nat, k9 = k ∧ ∀ x : Beh w2, x.fin.cell? ⟨b, 1, none⟩ = some (.int .i64 (k : Int)) := ⟨k, rfl, beh_cell d1⟩
          have bx0 := beh_cell P2.out.c0
          refine wp_region_beh (by kernel_rfl) (by kernel_rfl) ?_
          repeat
            (refine Qw_step (fun K hK => ?_)
             go_simp
             first
               | (refine hK _ ?_; clear hK K)
               | (apply Exists.intro
                  refine ⟨fun _ => ?_, hK _ ?_⟩
                  (fail)
                  clear hK K))
          refine Qw_nil ?_
          rintro w5 ⟨⟨_, hb5⟩, rfl⟩
          have P5 := Kept.mk (P2.out.below hb5)
          have B5 := Kept.mk (B2.out.trans (hb5.mono P2.out.hB))
          clear hb5 bx0 bx1
          go_wp2_with (first | (go_at_call 52; refine (no_e P5.out).mono ?_; rintro e w6 ⟨rfl, H6, hb6⟩; have P6 := Kept.mk H6; have B6 := Kept.mk (B5.out.trans hb6); clear H6 hb6))
          refine bodyPost_ret (results_none rfl _ _ _) rfl ?_
          exact ⟨rfl, endR_no P6.out, B6.out⟩
      have hne : r' ≠ [] := by rintro rfl; exact c0 (lk_nil _)
      by_cases c62 : lk (false, r') = 62 ∧ 2 ≤ run
      · obtain ⟨c62, hr2⟩ := c62
        obtain ⟨u, rfl⟩ := lk_cons 62 (by decide) (by decide) 62 rfl c62
        rw [cont_bad hr2] at hF
        injection hF with hF
        subst hF
        rw [c62] at CL
        have r2 : (2 : Int) ≤ (run : Int) := by omega
        clear HX c0 c62
        go_wp2_with (first | (go_at_call 50; refine (CL.out).mono ?_; rintro e w2 ⟨rfl, H2, hb2⟩; have d1 := H2.c1; dsimp only at d1; rw [hk] at d1; have P2 := Kept.mk H2; have B2 := Kept.mk (BW.out.trans hb2); clear H2 hb2 CL))
        obtain ⟨k9, hk9, bx1⟩ : ∃ k9 : Nat, k9 = k ∧ ∀ x : Beh w2, x.fin.cell? ⟨b, 1, none⟩ = some (.int .i64 (k : Int)) := ⟨k, rfl, beh_cell d1⟩
        have bx0 := beh_cell P2.out.c0
        refine wp_region_beh (by kernel_rfl) (by kernel_rfl) ?_
        repeat
          (refine Qw_step (fun K hK => ?_)
           go_simp
           first
             | (refine hK _ ?_; clear hK K)
             | (apply Exists.intro
                refine ⟨fun _ => ?_, hK _ ?_⟩
                (fail)
                clear hK K))
        refine Qw_nil ?_
        rintro w5 ⟨⟨_, hb5⟩, rfl⟩
        have P5 := Kept.mk (P2.out.below hb5)
        have B5 := Kept.mk (B2.out.trans (hb5.mono P2.out.hB))
        clear hb5 bx0 bx1
        go_wp2_with (first | (go_at_call 52; refine (no_e P5.out).mono ?_; rintro e w6 ⟨rfl, H6, hb6⟩; have P6 := Kept.mk H6; have B6 := Kept.mk (B5.out.trans hb6); clear H6 hb6))
        refine bodyPost_ret (results_none rfl _ _ _) rfl ?_
        exact ⟨rfl, endR_no P6.out, B6.out⟩
      by_cases c60 : lk (false, r') = 60
      · obtain ⟨u, rfl⟩ := lk_cons 60 (by decide) (by decide) 60 rfl c60
        rw [c60] at CL
        have CS := Kept.mk (fun (W : World) (H : Re B b s st' (false, 60 :: u) W) => step_e H (by simp))
        dsimp only at CS
        rw [skip_low 60 u (by decide)] at CS
        have hfr : (k : Int) = (s.size : Int) - u.length - 1 := by simp at hll hk; omega
        by_cases hc : 0 ≤ p ∧ u.head? = some 47
        · obtain ⟨hp, h47⟩ := hc
          obtain ⟨v, rfl⟩ := head_cons h47
          rw [cont_close hp] at hF
          injection hF with hF
          subst hF
          have CI := Kept.mk (fun (W : World) (H : Re B b s st' (false, 47 :: v) W) => is_e 47 (by decide) H)
          have hiy := isS_yes (c := 47) (n := 47) rfl (by decide) v
          rw [hiy.2, decide_eq_true hiy.1] at CI
          have CF := Kept.mk (fun (W : World) (H : Re B b s st' (false, v) W) => rflush_any p H (by omega) (by omega))
          have hpn : ¬ p < 0 := by omega
          clear hfr HX c0 c60 c62 hiy h47 htx hne
          go_wp2_with (first | (go_at_call 50; refine (CL.out).mono ?_; rintro e w2 ⟨rfl, H2, hb2⟩; have d1 := H2.c1; dsimp only at d1; rw [hk] at d1; have P2 := Kept.mk H2; have B2 := Kept.mk (BW.out.trans hb2); clear H2 hb2 CL))
          obtain ⟨k9, hk9, bx1⟩ : ∃ k9 : Nat, k9 = k ∧ ∀ x : Beh w2, x.fin.cell? ⟨b, 1, none⟩ = some (.int .i64 (k : Int)) := ⟨k, rfl, beh_cell d1⟩
          have bx0 := beh_cell P2.out.c0
          refine wp_region_beh (by kernel_rfl) (by kernel_rfl) ?_
          repeat
            (refine Qw_step (fun K hK => ?_)
             go_simp
             first
               | (refine hK _ ?_; clear hK K)
               | (apply Exists.intro
                  refine ⟨fun _ => ?_, hK _ ?_⟩
                  (fail)
                  clear hK K))
          refine Qw_nil ?_
          rintro w5 ⟨⟨_, hb5⟩, rfl⟩
          have P5 := Kept.mk (P2.out.below hb5)
          have B5 := Kept.mk (B2.out.trans (hb5.mono P2.out.hB))
          clear hb5 bx0 bx1
          go_wp2_with (first | (go_at_call 51; refine (CS.out _ P5.out).mono ?_; rintro e w6 ⟨rfl, H6, hb6⟩; have P6 := Kept.mk H6; have B6 := Kept.mk (B5.out.trans hb6); clear H6 hb6 CS) | (go_at_call 53; refine (CI.out _ P6.out).mono ?_; rintro e w7 ⟨rfl, H7, hb7⟩; have P7 := Kept.mk H7; have B7 := Kept.mk (B6.out.trans hb7); clear H7 hb7 CI) | (go_at_call 59; refine (CF.out _ P7.out).mono ?_; rintro e w8 ⟨rfl, H8, hb8⟩; have P8 := Kept.mk H8; have B8 := Kept.mk (B7.out.trans hb8); clear H8 hb8 CF))
          refine bodyPost_ret (results_none rfl _ _ _) rfl ?_
          exact ⟨rfl, endR_ok P8.out, B8.out⟩
        · rw [cont_mark hc] at hF
          have hmu : Ppa.meas st' u ≤ 800000 := by
            have h9 : Ppa.meas st' u ≤ Ppa.meas st' (60 :: u) := by unfold Ppa.meas; simp; omega
            omega
          cases hom : Ppa.markF s.size g p d u st' with
          | none => rw [hom] at hF; cases hF
          | some om =>
            rw [hom] at hF
            have CK := Kept.mk (fun (W : World) (H : Re B b s st' (false, u) W) => ihM g (by omega) p (k : Int) d st' u W om H hmu hp1 hp2 (by simp at hrR; omega) hfr hom)
            have hul : u.length ≤ r.length + 70000 := by simp at hrun; omega
            have hfin : ∀ W, EndR B b s om W → ∃ st2 σ2, Re B b s st2 σ2 W ∧ ContX s.size p d o r.length g 0 st2 σ2 ∧ σ2.2.length ≤ s.size := by
              intro W hW
              cases om with
              | error t =>
                injection hF with hF
                subst hF
                obtain ⟨s2, hW⟩ := hW
                exact ⟨s2, _, hW, contX_bad, hW.len⟩
              | ok q =>
                obtain ⟨t, s2⟩ := q
                have hW : Re B b s s2 (false, t) W := hW
                exact ⟨s2, _, hW, contX_good hF (Nat.le_trans ((Ppa.kc_all s.size g).mark p d u st' t s2 hom).2.1 hmu) (Nat.le_trans ((Ppa.kc_all s.size g).mark p d u st' t s2 hom).1.length_le (by simp at hrR; omega)), hW.len⟩
            have HFIN := Kept.mk hfin
            rcases (show (0 ≤ p ∧ u.head? ≠ some 47) ∨ p < 0 by rcases Int.lt_or_le p 0 with h | h; exact .inr h; exact .inl ⟨h, fun e => hc ⟨h, e⟩⟩) with ⟨hp, h47⟩ | hp
            · have CI := Kept.mk (fun (W : World) (H : Re B b s st' (false, u) W) => is_e 47 (by decide) H)
              have hin := isS_no (c := 47) (n := 47) rfl (by decide) (by decide) h47
              rw [hin.2, decide_eq_false hin.1] at CI
              have hpn : ¬ p < 0 := by omega
              clear hfr HX c0 c60 c62 hin h47 htx hne hc hF hom hfin
              go_wp2_with (first | (go_at_call 50; refine (CL.out).mono ?_; rintro e w2 ⟨rfl, H2, hb2⟩; have d1 := H2.c1; dsimp only at d1; rw [hk] at d1; have P2 := Kept.mk H2; have B2 := Kept.mk (BW.out.trans hb2); clear H2 hb2 CL))
              obtain ⟨k9, hk9, bx1⟩ : ∃ k9 : Nat, k9 = k ∧ ∀ x : Beh w2, x.fin.cell? ⟨b, 1, none⟩ = some (.int .i64 (k : Int)) := ⟨k, rfl, beh_cell d1⟩
              have bx0 := beh_cell P2.out.c0
              refine wp_region_beh (by kernel_rfl) (by kernel_rfl) ?_
              repeat
                (refine Qw_step (fun K hK => ?_)
                 go_simp
                 first
                   | (refine hK _ ?_; clear hK K)
                   | (apply Exists.intro
                      refine ⟨fun _ => ?_, hK _ ?_⟩
                      (fail)
                      clear hK K))
              refine Qw_nil ?_
              rintro w5 ⟨⟨_, hb5⟩, rfl⟩
              have P5 := Kept.mk (P2.out.below hb5)
              have B5 := Kept.mk (B2.out.trans (hb5.mono P2.out.hB))
              clear hb5 bx0 bx1
              go_wp2_with (first | (go_at_call 51; refine (CS.out _ P5.out).mono ?_; rintro e w6 ⟨rfl, H6, hb6⟩; have P6 := Kept.mk H6; have B6 := Kept.mk (B5.out.trans hb6); clear H6 hb6 CS) | (go_at_call 53; refine (CI.out _ P6.out).mono ?_; rintro e w7 ⟨rfl, H7, hb7⟩; have P7 := Kept.mk H7; have B7 := Kept.mk (B6.out.trans hb7); clear H7 hb7 CI) | (go_at_call 60; refine (CK.out _ P7.out).mono ?_; rintro e w8 ⟨rfl, H8, hb8⟩; have P8 := Kept.mk H8; have B8 := Kept.mk (B7.out.trans hb8); clear H8 hb8 CK))
              obtain ⟨st2, σ2, h2a, h2b, h2c⟩ := HFIN.out _ P8.out
              have h2k := Kept.mk h2a
              have h2l := Kept.mk h2b
              clear h2a h2b
              go_roundg g
              case measure => omega
              case rel => exact ⟨st2, σ2, 0, rfl, h2k, B8, h2l, by omega, by omega⟩
            · have hpn : ¬ 0 ≤ p := by omega
              clear hfr HX c0 c60 c62 htx hne hc hF hom hfin
              go_wp2_with (first | (go_at_call 50; refine (CL.out).mono ?_; rintro e w2 ⟨rfl, H2, hb2⟩; have d1 := H2.c1; dsimp only at d1; rw [hk] at d1; have P2 := Kept.mk H2; have B2 := Kept.mk (BW.out.trans hb2); clear H2 hb2 CL))
              obtain ⟨k9, hk9, bx1⟩ : ∃ k9 : Nat, k9 = k ∧ ∀ x : Beh w2, x.fin.cell? ⟨b, 1, none⟩ = some (.int .i64 (k : Int)) := ⟨k, rfl, beh_cell d1⟩
              have bx0 := beh_cell P2.out.c0
              refine wp_region_beh (by kernel_rfl) (by kernel_rfl) ?_
              repeat
                (refine Qw_step (fun K hK => ?_)
                 go_simp
                 first
                   | (refine hK _ ?_; clear hK K)
                   | (apply Exists.intro
                      refine ⟨fun _ => ?_, hK _ ?_⟩
                      (fail)
                      clear hK K))
              refine Qw_nil ?_
              rintro w5 ⟨⟨_, hb5⟩, rfl⟩
              have P5 := Kept.mk (P2.out.below hb5)
              have B5 := Kept.mk (B2.out.trans (hb5.mono P2.out.hB))
              clear hb5 bx0 bx1
              go_wp2_with (first | (go_at_call 51; refine (CS.out _ P5.out).mono ?_; rintro e w6 ⟨rfl, H6, hb6⟩; have P6 := Kept.mk H6; have B6 := Kept.mk (B5.out.trans hb6); clear H6 hb6 CS) | (go_at_call 60; refine (CK.out _ P6.out).mono ?_; rintro e w8 ⟨rfl, H8, hb8⟩; have P8 := Kept.mk H8; have B8 := Kept.mk (B6.out.trans hb8); clear H8 hb8 CK))
              obtain ⟨st2, σ2, h2a, h2b, h2c⟩ := HFIN.out _ P8.out
              have h2k := Kept.mk h2a
              have h2l := Kept.mk h2b
              clear h2a h2b
              go_roundg g
              case measure => omega
              case rel => exact ⟨st2, σ2, 0, rfl, h2k, B8, h2l, by omega, by omega⟩
      by_cases c38 : lk (false, r') = 38
      · obtain ⟨u, rfl⟩ := lk_cons 38 (by decide) (by decide) 38 rfl c38
        rw [c38] at CL
        rw [cont_ref] at hF
        have hri := ref_is u
        have hrl := refS_len (false, u)
        rw [show refS (false, u) = refR u from rfl] at hrl
        have hY : ContX s.size p d o r.length g 0 { st' with text := st'.text ++ (refR u).2 } (refR u).1 ∧ (refR u).1.2.length ≤ u.length := by
          cases hm : Ppa.refM u with
          | ok q =>
            obtain ⟨n, t'⟩ := q
            rw [hm] at hF
            have htl := (Ppa.refM_suf hm).length_le
            rw [hri.1 n t' hm] at hrl ⊢
            dsimp only at hrl
            refine ⟨contX_good hF ?_ (by simp at hrR; omega), htl⟩
            unfold Ppa.meas
            simp only [List.length_append] at hm9 ⊢
            simp at hm9
            omega
          | error t' =>
            rw [hm] at hF
            injection hF with hF
            subst hF
            rw [hri.2 t' hm]
            exact ⟨contX_bad, (Ppa.er_ref hm).1.length_le⟩
        have HY := Kept.mk hY.1
        have hyl := hY.2
        have CS0 := fun (z : Option Addr × Nat × Value) (W : World) (H : Rd B b s st' z (false, 38 :: u) W) => step_r H (by simp)
        dsimp only at CS0
        rw [skip_low 38 u (by decide)] at CS0
        have CR0 := fun (z : Option Addr × Nat × Value) (W : World) (H : Rd B b s st' z (false, u) W) => ref_r H
        rw [show refS (false, u) = refR u from rfl] at CR0
        obtain ⟨V, hVV⟩ : ∃ V, (refR u).2 = V := ⟨_, rfl⟩
        obtain ⟨S, hSS⟩ : ∃ S, (refR u).1 = S := ⟨_, rfl⟩
        rw [hVV] at CR0 HY hrl
        rw [hSS] at CR0 HY hyl
        have hvs : (⟨V.toArray⟩ : ByteArray).size = V.length := Lib.size_mk V
        simp only [List.length_cons] at hrun hll
        have CS1 := Kept.mk CS0
        have CR1 := Kept.mk CR0
        clear HX c0 c60 c62 c38 htx hne hF hri hY hVV hSS CS0 CR0
        go_wp2_with (first | (go_at_call 50; refine (CL.out).mono ?_; rintro e w2 ⟨rfl, H2, hb2⟩; have d1 := H2.c1; dsimp only at d1; rw [hk] at d1; have P2 := Kept.mk H2; have B2 := Kept.mk (BW.out.trans hb2); clear H2 hb2 CL))
        obtain ⟨k9, hk9, bx1⟩ : ∃ k9 : Nat, k9 = k ∧ ∀ x : Beh w2, x.fin.cell? ⟨b, 1, none⟩ = some (.int .i64 (k : Int)) := ⟨k, rfl, beh_cell d1⟩
        have bx0 := beh_cell P2.out.c0
        refine wp_region_beh (by kernel_rfl) (by kernel_rfl) ?_
        repeat
          (refine Qw_step (fun K hK => ?_)
           go_simp
           first
             | (refine hK _ ?_; clear hK K)
             | (apply Exists.intro
                refine ⟨fun _ => ?_, hK _ ?_⟩
                (fail)
                clear hK K))
        refine Qw_nil ?_
        rintro w5 ⟨⟨_, hb5⟩, rfl⟩
        have P5 := Kept.mk (P2.out.below hb5)
        have B5 := Kept.mk (B2.out.trans (hb5.mono P2.out.hB))
        clear hb5 bx0 bx1
        obtain ⟨⟨A, c, v⟩, H5⟩ := P5.out
        have K5 := Kept.mk H5
        have X := H5.ex
        obtain ⟨A5, c5, rfl, _⟩ := Flt.own_slice X.buf
        clear X H5
        have CS := Kept.mk (CS1.out (A, c, .slice A5 st'.text.length c5))
        have CR := Kept.mk (CR1.out (A, c, .slice A5 st'.text.length c5))
        go_wp2_with (first | (go_at_call 51; refine (CS.out _ K5.out).mono ?_; rintro e w6 ⟨rfl, H6, hg6⟩; have K6 := Kept.mk H6; have B6 := Kept.mk (B5.out.trans (K5.out.low hg6)); clear H6 hg6 CS))
        have d4 := K6.out.ex.c4
        dsimp only at d4
        go_region_law (first | (go_simp; go_at_call 61; refine (CR.out _ (K6.out.below ((Below.refl _ w6).drew))).mono ?_; rintro e w9 ⟨rfl, H9, hg9⟩; have e4 := H9.ex.c4; have K9 := Kept.mk H9; have B9 := Kept.mk (B6.out.trans (((Below.refl _ w6).drew.mono K6.out.hB).trans ((K6.out.below ((Below.refl _ w6).drew)).low hg9))); clear H9 hg9) | (refine step_append_string rfl (.tmp 103) (.tmp 105) rfl B (.slice A5 st'.text.length c5) st'.text.length (Lib.byteCells st'.text) (by rfl) K9.out.ex.buf ⟨V.toArray⟩ (by rfl) (by rw [hvs]; omega) K9.out.hB ?_; intro v7 w7 ho7 hg7; have hb7 := (hg7.block b K9.out.ex.lt (fun e => K9.out.ex.bufn e.symm)).trans K9.out.ex.blk; have e7 : w7.cell? ⟨b, 4, none⟩ = some (.slice A5 st'.text.length c5) := (by rw [cell_of_row w7 b _ _ _ _ hb7]; rfl); have f7 : w7.frozen? ⟨b, 4, none⟩ = false := Joins.unfrozen_of_block hb7 _; have ho8 : w7.ownsRow B 5 1 v7 (st'.text ++ V).length (Lib.byteCells (st'.text ++ V)) := (by rw [List.length_append, Lib.byteCells_append]; have h := ho7; rw [hvs] at h; exact h); obtain ⟨L8, hL8⟩ : ∃ L8, (st'.text ++ V).length = L8 := ⟨_, rfl⟩; have ho9 := ho8; rw [hL8] at ho9; obtain ⟨A7, c7, rfl, _⟩ := Flt.own_slice ho9; have HP := Kept.mk (K9.out.text hg7 ho8); clear hL8 ho9 ho7 hg7 hb7 ho8))
        all_goals
          go_wp2
          go_roundg g
          case measure => omega
          case rel => exact ⟨_, S, 0, rfl, ⟨⟨_, HP.out.1⟩⟩, ⟨B9.out.trans HP.out.2⟩, HY, by omega, by omega⟩
      by_cases c13 : lk (false, r') = 13
      · obtain ⟨u, rfl⟩ := lk_cons 13 (by decide) (by decide) 13 rfl c13
        rw [c13] at CL
        rw [cont_cr] at hF
        have hnl := nlL_len u
        have HY : Kept (ContX s.size p d o r.length g 0 { st' with text := st'.text ++ [10] } (false, Ppa.nlL u)) := ⟨contX_good hF (by unfold Ppa.meas; simp only [List.length_append]; simp at hm9 ⊢; omega) (by simp at hrR; omega)⟩
        have CS0 := fun (z : Option Addr × Nat × Value) (W : World) (H : Rd B b s st' z (false, 13 :: u) W) => step_r H (by simp)
        dsimp only at CS0
        rw [skip_low 13 u (by decide)] at CS0
        have CI0 := fun (z : Option Addr × Nat × Value) (W : World) (H : Rd B b s st' z (false, u) W) => is_r 10 (by decide) H
        rw [isS_nl] at CI0
        generalize decide (lk (false, u) = 10) = D at CI0
        simp only [List.length_cons] at hrun hll
        have CS1 := Kept.mk CS0
        have CI1 := Kept.mk CI0
        obtain ⟨i0, hi, hz0, hz1, hz2⟩ := info_parts infoU
        clear HX c0 c60 c62 c38 c13 htx hne hF CS0 CI0
        go_wp2_with (first | (go_at_call 50; refine (CL.out).mono ?_; rintro e w2 ⟨rfl, H2, hb2⟩; have d1 := H2.c1; dsimp only at d1; rw [hk] at d1; have P2 := Kept.mk H2; have B2 := Kept.mk (BW.out.trans hb2); clear H2 hb2 CL))
        obtain ⟨k9, hk9, bx1⟩ : ∃ k9 : Nat, k9 = k ∧ ∀ x : Beh w2, x.fin.cell? ⟨b, 1, none⟩ = some (.int .i64 (k : Int)) := ⟨k, rfl, beh_cell d1⟩
        have bx0 := beh_cell P2.out.c0
        refine wp_region_beh (by kernel_rfl) (by kernel_rfl) ?_
        repeat
          (refine Qw_step (fun K hK => ?_)
           go_simp
           first
             | (refine hK _ ?_; clear hK K)
             | (apply Exists.intro
                refine ⟨fun _ => ?_, hK _ ?_⟩
                (fail)
                clear hK K))
        refine Qw_nil ?_
        rintro w5 ⟨⟨_, hb5⟩, rfl⟩
        have P5 := Kept.mk (P2.out.below hb5)
        have B5 := Kept.mk (B2.out.trans (hb5.mono P2.out.hB))
        clear hb5 bx0 bx1
        obtain ⟨⟨A, c, v⟩, H5⟩ := P5.out
        have K5 := Kept.mk H5
        have X := H5.ex
        obtain ⟨A5, c5, rfl, _⟩ := Flt.own_slice X.buf
        clear X H5
        have CS := Kept.mk (CS1.out (A, c, .slice A5 st'.text.length c5))
        have CI := Kept.mk (CI1.out (A, c, .slice A5 st'.text.length c5))
        go_wp2_with (first | (go_at_call 51; refine (CS.out _ K5.out).mono ?_; rintro e w6 ⟨rfl, H6, hg6⟩; have K6 := Kept.mk H6; have B6 := Kept.mk (B5.out.trans (K5.out.low hg6)); clear H6 hg6 CS) | (go_at_call 53; refine (CI.out _ K6.out).mono ?_; rintro e w7 ⟨rfl, H7, hg7⟩; have e4 := H7.ex.c4; have f4 := H7.ex.unf 4; have l4 := H7.ex.lt; have K7 := Kept.mk H7; have B7 := Kept.mk (B6.out.trans (K6.out.low hg7)); clear H7 hg7 CI) | (at_builtin; refine wpList_append_own _ rfl (.tmp 120) (.tmp 121) 41 rfl B 5 i0 (.int .u8 0) 1 1 Tryz.underlying41 hi hz0 hz1 hz2 rfl (by decide) (.slice A5 st'.text.length c5) st'.text.length _ (by rfl) (K7.out.ex.buf.alloc _) ⟨w7.heap.size, 0, none⟩ 1 1 [.int .u8 10] (by rfl) (by rfl) (World.news_of_block (heap_alloc_new _ _)) (by intro u hu; simp at hu; subst hu; rfl) (by unfold maxLen; omega) (by omega) (by have := K7.out.hB; simp; omega) ?_; intro v8 w8 hown8 hgrow8 _; have hba := (Below.refl w7.heap.size w7).alloc (Nat.le_refl _) (.cells #[.int .u8 10] 5); have K9 := K7.out.below hba; have hb8 := (hgrow8.block b K9.ex.lt (fun e => K9.ex.bufn e.symm)).trans K9.ex.blk; have e8 : w8.cell? ⟨b, 4, none⟩ = some (.slice A5 st'.text.length c5) := (by rw [cell_of_row w8 b _ _ _ _ hb8]; rfl); have f8 : w8.frozen? ⟨b, 4, none⟩ = false := Joins.unfrozen_of_block hb8 _; have ho8 : w8.ownsRow B 5 1 v8 (st'.text ++ [10]).length (Lib.byteCells (st'.text ++ [10])) := (by rw [List.length_append, Lib.byteCells_append]; exact hown8); obtain ⟨L8, hL8⟩ : ∃ L8, (st'.text ++ [10]).length = L8 := ⟨_, rfl⟩; have ho9 := ho8; rw [hL8] at ho9; obtain ⟨A8, c8, rfl, _⟩ := Flt.own_slice ho9; have HP := Kept.mk (K9.text hgrow8 ho8); clear hL8 ho9; have BP := Kept.mk (B7.out.trans (hba.mono K7.out.hB)); clear hown8 hgrow8 hba K9 hb8 ho8))
        go_roundg g
        case measure => omega
        case rel => exact ⟨_, (false, Ppa.nlL u), 0, rfl, ⟨⟨_, HP.out.1⟩⟩, ⟨BP.out.trans HP.out.2⟩, HY, by omega, by dsimp only; omega⟩
      have k1 : ¬ (r'.head? = some 62 ∧ 2 ≤ run) := fun e => c62 ⟨by obtain ⟨t, rfl⟩ := head_cons e.1; exact lk_low 62 t (by decide), e.2⟩
      have k2 := lk_head 60 (by decide) (by decide) 60 rfl c60
      have k3 := lk_head 38 (by decide) (by decide) 38 rfl c38
      have k4 := lk_head 13 (by decide) (by decide) 13 rfl c13
      have k5 : lk (false, r') = 93 ↔ r'.head? = some 93 := lk_is 93 (by decide) (by decide) r'
      have hd1 := Lib.decodeL_width r'
      have hd2 := Lib.decodeL_le r' hne
      have hsk : Ppa.skip r' = r'.drop (Lib.decodeL r').2 := rfl
      have hdr := HP.out
      have hdr2 : s.data.toList.drop (s.size - r'.length) = r' := by obtain ⟨z, h⟩ := hdr; exact h.drop
      have hgd := cont_few hne htx hF
      have CS0 := fun (z : Option Addr × Nat × Value) (W : World) (H : Rd B b s st' z (false, r') W) => step_r H hne
      dsimp only at CS0
      have hch := fun m => contF_char (N := s.size) (f := m) (p := p) (d := d) (run := run) (st := st') hne htx k1 k2 k3 k4
      rw [hsk] at hch CS0
      obtain ⟨e, hde⟩ : ∃ e, (Lib.decodeL r').2 = e := ⟨_, rfl⟩
      rw [hde] at hch CS0 hd1 hd2 hgd
      have hch2 := hch (g + 1 - e)
      rw [show g + 1 - e + e = g + 1 by omega, hF] at hch2
      have hdl : (r'.drop e).length = r'.length - e := List.length_drop
      have htl : (r'.take e).length = e := by rw [List.length_take]; omega
      obtain ⟨run2, hr2⟩ : ∃ run2, (if r'.head? = some 93 then run + 1 else 0) = run2 := ⟨_, rfl⟩
      rw [hr2] at hch2
      have HY : Kept (ContX s.size p d o r.length (g + 1 - e) run2 { st' with text := st'.text ++ r'.take e } (false, r'.drop e)) := ⟨contX_good hch2.symm (by unfold Ppa.meas; simp only [List.length_append, htl, hdl]; omega) (by omega)⟩
      have hkd : s.size - (r'.drop e).length = k + e := by omega
      have hxs : s.extract k (k + e) = ⟨(r'.take e).toArray⟩ := by rw [extract_part, ← hk, hdr2]
      have HXS := Kept.mk hxs
      have HZX : Kept ((s.extract k (k + e)).size = e) := ⟨by rw [hxs, Lib.size_mk, htl]⟩
      have m5 : (lk (false, r') = 93 ∧ run2 = run + 1) ∨ (¬ lk (false, r') = 93 ∧ run2 = 0) := by
        by_cases h : lk (false, r') = 93
        · exact .inl ⟨h, by rw [← hr2, if_pos (k5.1 h)]⟩
        · exact .inr ⟨h, by rw [← hr2, if_neg (fun e => h (k5.2 e))]⟩
      have hrun2 : run2 ≤ run + 1 := by rcases m5 with ⟨_, h⟩ | ⟨_, h⟩ <;> omega
      have CS1 := Kept.mk CS0
      have t0 : (0 : Int) ≤ (k : Int) := by omega
      have t1 : (k : Int) ≤ (k : Int) + (e : Int) := by omega
      have t2 : (k : Int) + (e : Int) ≤ (s.size : Int) := by omega
      have t3 : ((k : Int) + (e : Int)).toNat = k + e := by omega
      have hte : st'.text.length ≤ 800000 := by omega
      generalize lk (false, r') = C at CL c0 c62 c60 c38 c13 m5
      have m0 : ¬ (C : Int) = 0 := by omega
      have m2 : ¬ (C : Int) = 60 := by omega
      have m3 : ¬ (C : Int) = 38 := by omega
      have m4 : ¬ (C : Int) = 13 := by omega
      have q0 : ((C : Int) == 0) = false := by simpa using m0
      have q2 : ((C : Int) == 60) = false := by simpa using m2
      have q3 : ((C : Int) == 38) = false := by simpa using m3
      have q4 : ((C : Int) == 13) = false := by simpa using m4
      have m6 : (C : Int) = 62 ∧ ¬ (2 : Int) ≤ (run : Int) ∨ ¬ (C : Int) = 62 := by
        by_cases h : C = 62
        · exact .inl ⟨by omega, fun h2 => c62 ⟨h, by omega⟩⟩
        · exact .inr (by omega)
      have M5 := Kept.mk m5
      clear HX c0 c60 c62 c38 c13 k1 k2 k3 k4 k5 hsk hdr hdr2 hch hch2 hde hr2 hxs hF htx hne CS0 m5
      rcases m6 with ⟨m6, m7⟩ | m6
      · have hC : C = 62 := by omega
        subst hC
        have hr0 : run2 = 0 := by rcases M5.out with ⟨h, _⟩ | ⟨_, h⟩; exact absurd h (by decide); exact h
        subst hr0
        clear m0 m2 m3 m4 q0 q2 q3 q4 m6 M5
        go_wp2_with (first | (go_at_call 50; refine (CL.out).mono ?_; rintro e w2 ⟨rfl, H2, hb2⟩; have d1 := H2.c1; dsimp only at d1; rw [hk] at d1; have P2 := Kept.mk H2; have B2 := Kept.mk (BW.out.trans hb2); clear H2 hb2 CL))
        obtain ⟨k9, hk9, bx1⟩ : ∃ k9 : Nat, k9 = k ∧ ∀ x : Beh w2, x.fin.cell? ⟨b, 1, none⟩ = some (.int .i64 (k : Int)) := ⟨k, rfl, beh_cell d1⟩
        have bx0 := beh_cell P2.out.c0
        refine wp_region_beh (by kernel_rfl) (by kernel_rfl) ?_
        repeat
          (refine Qw_step (fun K hK => ?_)
           go_simp
           first
             | (refine hK _ ?_; clear hK K)
             | (apply Exists.intro
                refine ⟨fun _ => ?_, hK _ ?_⟩
                (fail)
                clear hK K))
        refine Qw_nil ?_
        rintro w5 ⟨⟨_, hb5⟩, rfl⟩
        have P5 := Kept.mk (P2.out.below hb5)
        have B5 := Kept.mk (B2.out.trans (hb5.mono P2.out.hB))
        clear hb5 bx0 bx1
        obtain ⟨⟨A, c, v⟩, H5⟩ := P5.out
        have K5 := Kept.mk H5
        have X := H5.ex
        obtain ⟨A5, c5, rfl, _⟩ := Flt.own_slice X.buf
        clear X H5
        have CS := Kept.mk (CS1.out (A, c, .slice A5 st'.text.length c5))
        go_wp2_with (first | (go_at_call 51; refine (CS.out _ K5.out).mono ?_; rintro e w6 ⟨rfl, H6, hg6⟩; have K6 := Kept.mk H6; have B6 := Kept.mk (B5.out.trans (K5.out.low hg6)); clear H6 hg6 CS))
        have d4 := K6.out.ex.c4
        have g0 := K6.out.c0
        have g1 := K6.out.c1
        dsimp only at d4 g1
        rw [hkd, show ((k + e : Nat) : Int) = (k : Int) + (e : Int) by omega] at g1
        have K9 := Kept.mk (K6.out.below ((Below.refl _ w6).drew))
        have B9 := Kept.mk (B6.out.trans ((Below.refl _ w6).drew.mono K6.out.hB))
        go_region_law (refine step_append_string rfl (.tmp 26) (.tmp 36) rfl B (.slice A5 st'.text.length c5) st'.text.length (Lib.byteCells st'.text) (by rfl) K9.out.ex.buf (s.extract k (k + e)) (by rfl) (by rw [HZX.out]; omega) K9.out.hB ?_; intro v7 w7 ho7 hg7; have hb7 := (hg7.block b K9.out.ex.lt (fun e => K9.out.ex.bufn e.symm)).trans K9.out.ex.blk; have e7 : w7.cell? ⟨b, 4, none⟩ = some (.slice A5 st'.text.length c5) := (by rw [cell_of_row w7 b _ _ _ _ hb7]; rfl); have f7 : w7.frozen? ⟨b, 4, none⟩ = false := Joins.unfrozen_of_block hb7 _; have ho8 : w7.ownsRow B 5 1 v7 (st'.text ++ r'.take e).length (Lib.byteCells (st'.text ++ r'.take e)) := (by rw [List.length_append, Lib.byteCells_append, htl]; have h := ho7; rw [HZX.out, HXS.out] at h; exact h); obtain ⟨L8, hL8⟩ : ∃ L8, (st'.text ++ r'.take e).length = L8 := ⟨_, rfl⟩; have ho9 := ho8; rw [hL8] at ho9; obtain ⟨A7, c7, rfl, _⟩ := Flt.own_slice ho9; have HP := Kept.mk (K9.out.text hg7 ho8); clear hL8 ho9 ho7 hg7 hb7 ho8)
        all_goals
          go_wp2
          go_roundg (g + 1 - e)
          case measure => omega
          case rel => exact ⟨_, (false, r'.drop e), 0, rfl, ⟨⟨_, HP.out.1⟩⟩, ⟨B9.out.trans HP.out.2⟩, HY, by omega, by dsimp only; omega⟩
      · have q6 : ((C : Int) == 62) = false := by simpa using m6
        rcases M5.out with ⟨h93, hrr⟩ | ⟨h93, hrr⟩
        · subst h93 hrr
          clear m0 m2 m3 m4 q0 q2 q3 q4 m6 q6 M5
          go_wp2_with (first | (go_at_call 50; refine (CL.out).mono ?_; rintro e w2 ⟨rfl, H2, hb2⟩; have d1 := H2.c1; dsimp only at d1; rw [hk] at d1; have P2 := Kept.mk H2; have B2 := Kept.mk (BW.out.trans hb2); clear H2 hb2 CL))
          obtain ⟨k9, hk9, bx1⟩ : ∃ k9 : Nat, k9 = k ∧ ∀ x : Beh w2, x.fin.cell? ⟨b, 1, none⟩ = some (.int .i64 (k : Int)) := ⟨k, rfl, beh_cell d1⟩
          have bx0 := beh_cell P2.out.c0
          refine wp_region_beh (by kernel_rfl) (by kernel_rfl) ?_
          repeat
            (refine Qw_step (fun K hK => ?_)
             go_simp
             first
               | (refine hK _ ?_; clear hK K)
               | (apply Exists.intro
                  refine ⟨fun _ => ?_, hK _ ?_⟩
                  (fail)
                  clear hK K))
          refine Qw_nil ?_
          rintro w5 ⟨⟨_, hb5⟩, rfl⟩
          have P5 := Kept.mk (P2.out.below hb5)
          have B5 := Kept.mk (B2.out.trans (hb5.mono P2.out.hB))
          clear hb5 bx0 bx1
          obtain ⟨⟨A, c, v⟩, H5⟩ := P5.out
          have K5 := Kept.mk H5
          have X := H5.ex
          obtain ⟨A5, c5, rfl, _⟩ := Flt.own_slice X.buf
          clear X H5
          have CS := Kept.mk (CS1.out (A, c, .slice A5 st'.text.length c5))
          go_wp2_with (first | (go_at_call 51; refine (CS.out _ K5.out).mono ?_; rintro e w6 ⟨rfl, H6, hg6⟩; have K6 := Kept.mk H6; have B6 := Kept.mk (B5.out.trans (K5.out.low hg6)); clear H6 hg6 CS))
          have d4 := K6.out.ex.c4
          have g0 := K6.out.c0
          have g1 := K6.out.c1
          dsimp only at d4 g1
          rw [hkd, show ((k + e : Nat) : Int) = (k : Int) + (e : Int) by omega] at g1
          have K9 := Kept.mk (K6.out.below ((Below.refl _ w6).drew))
          have B9 := Kept.mk (B6.out.trans ((Below.refl _ w6).drew.mono K6.out.hB))
          go_region_law (refine step_append_string rfl (.tmp 26) (.tmp 36) rfl B (.slice A5 st'.text.length c5) st'.text.length (Lib.byteCells st'.text) (by rfl) K9.out.ex.buf (s.extract k (k + e)) (by rfl) (by rw [HZX.out]; omega) K9.out.hB ?_; intro v7 w7 ho7 hg7; have hb7 := (hg7.block b K9.out.ex.lt (fun e => K9.out.ex.bufn e.symm)).trans K9.out.ex.blk; have e7 : w7.cell? ⟨b, 4, none⟩ = some (.slice A5 st'.text.length c5) := (by rw [cell_of_row w7 b _ _ _ _ hb7]; rfl); have f7 : w7.frozen? ⟨b, 4, none⟩ = false := Joins.unfrozen_of_block hb7 _; have ho8 : w7.ownsRow B 5 1 v7 (st'.text ++ r'.take e).length (Lib.byteCells (st'.text ++ r'.take e)) := (by rw [List.length_append, Lib.byteCells_append, htl]; have h := ho7; rw [HZX.out, HXS.out] at h; exact h); obtain ⟨L8, hL8⟩ : ∃ L8, (st'.text ++ r'.take e).length = L8 := ⟨_, rfl⟩; have ho9 := ho8; rw [hL8] at ho9; obtain ⟨A7, c7, rfl, _⟩ := Flt.own_slice ho9; have HP := Kept.mk (K9.out.text hg7 ho8); clear hL8 ho9 ho7 hg7 hb7 ho8)
          all_goals
            go_wp2
            go_roundg (g + 1 - e)
            case measure => omega
            case rel => exact ⟨_, (false, r'.drop e), (run + 1), (by go_num), ⟨⟨_, HP.out.1⟩⟩, ⟨B9.out.trans HP.out.2⟩, HY, by omega, by dsimp only; omega⟩
        · subst hrr
          have m93 : ¬ (C : Int) = 93 := by omega
          have q93 : ((C : Int) == 93) = false := by simpa using m93
          clear M5 h93
          go_wp2_with (first | (go_at_call 50; refine (CL.out).mono ?_; rintro e w2 ⟨rfl, H2, hb2⟩; have d1 := H2.c1; dsimp only at d1; rw [hk] at d1; have P2 := Kept.mk H2; have B2 := Kept.mk (BW.out.trans hb2); clear H2 hb2 CL))
          obtain ⟨k9, hk9, bx1⟩ : ∃ k9 : Nat, k9 = k ∧ ∀ x : Beh w2, x.fin.cell? ⟨b, 1, none⟩ = some (.int .i64 (k : Int)) := ⟨k, rfl, beh_cell d1⟩
          have bx0 := beh_cell P2.out.c0
          refine wp_region_beh (by kernel_rfl) (by kernel_rfl) ?_
          repeat
            (refine Qw_step (fun K hK => ?_)
             go_simp
             first
               | (refine hK _ ?_; clear hK K)
               | (apply Exists.intro
                  refine ⟨fun _ => ?_, hK _ ?_⟩
                  (fail)
                  clear hK K))
          refine Qw_nil ?_
          rintro w5 ⟨⟨_, hb5⟩, rfl⟩
          have P5 := Kept.mk (P2.out.below hb5)
          have B5 := Kept.mk (B2.out.trans (hb5.mono P2.out.hB))
          clear hb5 bx0 bx1
          obtain ⟨⟨A, c, v⟩, H5⟩ := P5.out
          have K5 := Kept.mk H5
          have X := H5.ex
          obtain ⟨A5, c5, rfl, _⟩ := Flt.own_slice X.buf
          clear X H5
          have CS := Kept.mk (CS1.out (A, c, .slice A5 st'.text.length c5))
          go_wp2_with (first | (go_at_call 51; refine (CS.out _ K5.out).mono ?_; rintro e w6 ⟨rfl, H6, hg6⟩; have K6 := Kept.mk H6; have B6 := Kept.mk (B5.out.trans (K5.out.low hg6)); clear H6 hg6 CS))
          have d4 := K6.out.ex.c4
          have g0 := K6.out.c0
          have g1 := K6.out.c1
          dsimp only at d4 g1
          rw [hkd, show ((k + e : Nat) : Int) = (k : Int) + (e : Int) by omega] at g1
          have K9 := Kept.mk (K6.out.below ((Below.refl _ w6).drew))
          have B9 := Kept.mk (B6.out.trans ((Below.refl _ w6).drew.mono K6.out.hB))
          go_region_law (refine step_append_string rfl (.tmp 26) (.tmp 36) rfl B (.slice A5 st'.text.length c5) st'.text.length (Lib.byteCells st'.text) (by rfl) K9.out.ex.buf (s.extract k (k + e)) (by rfl) (by rw [HZX.out]; omega) K9.out.hB ?_; intro v7 w7 ho7 hg7; have hb7 := (hg7.block b K9.out.ex.lt (fun e => K9.out.ex.bufn e.symm)).trans K9.out.ex.blk; have e7 : w7.cell? ⟨b, 4, none⟩ = some (.slice A5 st'.text.length c5) := (by rw [cell_of_row w7 b _ _ _ _ hb7]; rfl); have f7 : w7.frozen? ⟨b, 4, none⟩ = false := Joins.unfrozen_of_block hb7 _; have ho8 : w7.ownsRow B 5 1 v7 (st'.text ++ r'.take e).length (Lib.byteCells (st'.text ++ r'.take e)) := (by rw [List.length_append, Lib.byteCells_append, htl]; have h := ho7; rw [HZX.out, HXS.out] at h; exact h); obtain ⟨L8, hL8⟩ : ∃ L8, (st'.text ++ r'.take e).length = L8 := ⟨_, rfl⟩; have ho9 := ho8; rw [hL8] at ho9; obtain ⟨A7, c7, rfl, _⟩ := Flt.own_slice ho9; have HP := Kept.mk (K9.out.text hg7 ho8); clear hL8 ho9 ho7 hg7 hb7 ho8)
          all_goals
            go_wp2
            go_roundg (g + 1 - e)
            case measure => omega
            case rel => exact ⟨_, (false, r'.drop e), 0, rfl, ⟨⟨_, HP.out.1⟩⟩, ⟨B9.out.trans HP.out.2⟩, HY, by omega, by dsimp only; omega⟩
    · have hX : o = .error r' := by rw [if_pos rfl] at hX; exact hX
      subst hX
      clear HX
      go_wp2
      go_end0
      exact ⟨rfl, endR_no HP.out, BW.out⟩
end
end Go.Proofs.YtlemdhfekdiaeaaGreatDoor.Wrd
namespace Go.Proofs.YtlemdhfekdiaeaaGreatDoor.Wrd
open Go Go.RowKit Go.Proofs.YtlemdhfekdiaeaaGreatDoor.Kb Go.Proofs.YtlemdhfekdiaeaaGreatDoor.Wch Go.Proofs.YtlemdhfekdiaeaaGreatDoor.Wps Go.Proofs.YtlemdhfekdiaeaaGreatDoor.Emk Go.PlainAid

section
variable {B b : Nat} {s : ByteArray} {st : Ppa.St} {σ : Sg} {w : World}
theorem is_en {r : Ppa.Bs} (c : UInt8) (n : Nat) (hn : c.toNat = n) (hc : c.toNat < 128) (h0 : 0 < n) (h : r.head? ≠ some c) (W : World) (H : Re B b s st (false, r) W) : Calls Tryz.prog 53 #[.pointer (some ⟨b, 0, none⟩), .int .i32 (n : Int)] W fun e w' => e = .returned (.bool false) ∧ Re B b s st (false, r) w' ∧ Below B W w' := by
  obtain ⟨z, H⟩ := H
  exact (is_no c n hn hc h0 h W H).mono fun e w' ⟨he, h1, hg⟩ => ⟨he, ⟨z, h1⟩, H.low hg⟩
theorem is_ey {t : Ppa.Bs} (c : UInt8) (n : Nat) (hn : c.toNat = n) (hc : c.toNat < 128) (h0 : 0 < n) (W : World) (H : Re B b s st (false, c :: t) W) : Calls Tryz.prog 53 #[.pointer (some ⟨b, 0, none⟩), .int .i32 (n : Int)] W fun e w' => e = .returned (.bool true) ∧ Re B b s st (false, t) w' ∧ Below B W w' := by
  obtain ⟨z, H⟩ := H
  exact (is_yes c n hn hc h0 W H).mono fun e w' ⟨he, h1, hg⟩ => ⟨he, ⟨z, h1⟩, H.low hg⟩
set_option maxRecDepth 100000 in
set_option maxHeartbeats 8000000 in
theorem rmarkup_any {f : Nat} (ihC : ∀ g, g < f → ContR B b s g) : MarkR B b s (f + 1) := by
  intro p fr d st r w o h hm hp1 hp2 hd hfr he
  have hs9 := h.small
  have hll := h.len
  dsimp only at hll
  have hm9 := hm
  unfold Ppa.meas at hm9
  have P0 := Kept.mk h
  have B0 := Kept.mk (Below.refl B w)
  clear h
  by_cases h63 : r.head? = some 63
  · obtain ⟨t, rfl⟩ := head_cons h63
    rw [mark_instr] at he
    injection he with he
    subst he
    have C1 := Kept.mk (fun W => is_ey (B := B) (b := b) (s := s) (st := st) (t := t) 63 63 rfl (by decide) (by decide) W)
    have CP := Kept.mk (fun (W : World) (H : Re B b s st (false, t) W) => rpi_any p H (by unfold Ppa.meas; simp at hm9; omega))
    clear h63 hm hfr
    go_enter Tryz.func60, Tryz.ntmps60
    go_wp2_with (first | (go_at_call 53; refine (C1.out _ P0.out).mono ?_; rintro e w1 ⟨rfl, H1, hb1⟩; have P1 := Kept.mk H1; have B1 := Kept.mk (B0.out.trans hb1); clear H1 hb1 C1) | (go_at_call 54; refine (CP.out _ P1.out).mono ?_; rintro e w2 ⟨rfl, H2, hb2⟩; have P2 := Kept.mk H2; have B2 := Kept.mk (B1.out.trans hb2); clear H2 hb2 CP))
    go_end0
    exact ⟨rfl, P2.out, B2.out⟩
  · have C1 := Kept.mk (fun W => is_en (B := B) (b := b) (s := s) (st := st) 63 63 rfl (by decide) (by decide) h63 W)
    by_cases h33 : r.head? = some 33
    · obtain ⟨t, rfl⟩ := head_cons h33
      have C2 := Kept.mk (fun W => is_ey (B := B) (b := b) (s := s) (st := st) (t := t) 33 33 rfl (by decide) (by decide) W)
      by_cases h45 : t.head? = some 45
      · obtain ⟨u, rfl⟩ := head_cons h45
        rw [mark_comm] at he
        injection he with he
        subst he
        have C3 := Kept.mk (fun W => is_ey (B := B) (b := b) (s := s) (st := st) (t := u) 45 45 rfl (by decide) (by decide) W)
        have CP := Kept.mk (fun (W : World) (H : Re B b s st (false, u) W) => rcomment_any p H (by unfold Ppa.meas; simp at hm9; omega))
        clear h63 h33 h45 hm hfr
        go_enter Tryz.func60, Tryz.ntmps60
        go_wp2_with (first | (go_at_call 53; refine (C1.out _ P0.out).mono ?_; rintro e w1 ⟨rfl, H1, hb1⟩; have P1 := Kept.mk H1; have B1 := Kept.mk (B0.out.trans hb1); clear H1 hb1 C1) | (go_at_call 53; refine (C2.out _ P1.out).mono ?_; rintro e w2 ⟨rfl, H2, hb2⟩; have P2 := Kept.mk H2; have B2 := Kept.mk (B1.out.trans hb2); clear H2 hb2 C2) | (go_at_call 53; refine (C3.out _ P2.out).mono ?_; rintro e w3 ⟨rfl, H3, hb3⟩; have P3 := Kept.mk H3; have B3 := Kept.mk (B2.out.trans hb3); clear H3 hb3 C3) | (go_at_call 56; refine (CP.out _ P3.out).mono ?_; rintro e w4 ⟨rfl, H4, hb4⟩; have P4 := Kept.mk H4; have B4 := Kept.mk (B3.out.trans hb4); clear H4 hb4 CP))
        refine bodyPost_ret (results_none rfl _ _ _) rfl ?_
        exact ⟨rfl, P4.out, B4.out⟩
      · have C3 := Kept.mk (fun W => is_en (B := B) (b := b) (s := s) (st := st) 45 45 rfl (by decide) (by decide) h45 W)
        rw [mark_cdata h45] at he
        injection he with he
        unfold cdataM at he
        have C4 := Kept.mk (fun (W : World) (H : Re B b s st (false, t) W) => must_e ⟨#[91, 67, 68, 65, 84, 65, 91]⟩ (by decide) (by decide) H)
        rw [show (⟨#[91, 67, 68, 65, 84, 65, 91]⟩ : ByteArray).data.toList = [91, 67, 68, 65, 84, 65, 91] from rfl] at C4
        cases h1 : Ppa.mustL [91, 67, 68, 65, 84, 65, 91] t with
        | error r1 =>
          rw [h1] at he
          subst he
          rw [mustB_is.2 r1 h1] at C4
          have C5 := Kept.mk (fun (W : World) (H : Re B b s st (true, r1) W) => until_e ⟨#[93, 93, 62]⟩ 93 [93, 62] rfl (by decide) (by decide) H)
          rw [show (⟨#[93, 93, 62]⟩ : ByteArray).data.toList = [93, 93, 62] from rfl, untilS_true] at C5
          clear h63 h33 h45 hm hfr h1
          go_enter Tryz.func60, Tryz.ntmps60
          go_wp2_with (first | (go_at_call 53; refine (C1.out _ P0.out).mono ?_; rintro e w1 ⟨rfl, H1, hb1⟩; have P1 := Kept.mk H1; have B1 := Kept.mk (B0.out.trans hb1); clear H1 hb1 C1) | (go_at_call 53; refine (C2.out _ P1.out).mono ?_; rintro e w2 ⟨rfl, H2, hb2⟩; have P2 := Kept.mk H2; have B2 := Kept.mk (B1.out.trans hb2); clear H2 hb2 C2) | (go_at_call 53; refine (C3.out _ P2.out).mono ?_; rintro e w3 ⟨rfl, H3, hb3⟩; have P3 := Kept.mk H3; have B3 := Kept.mk (B2.out.trans hb3); clear H3 hb3 C3) | (go_at_call 55; refine (C4.out _ P3.out).mono ?_; rintro e w4 ⟨rfl, H4, hb4⟩; have P4 := Kept.mk H4; have B4 := Kept.mk (B3.out.trans hb4); clear H4 hb4 C4) | (go_at_call 90; refine (C5.out _ P4.out).mono ?_; rintro e w5 ⟨rfl, H5, hb5⟩; have c2 := H5.c2; have P5 := Kept.mk H5; have B5 := Kept.mk (B4.out.trans hb5); clear H5 hb5 C5))
          go_end0
          exact ⟨rfl, endR_no P5.out, B5.out⟩
        | ok r1 =>
          rw [h1] at he
          dsimp only at he
          rw [mustB_is.1 r1 h1] at C4
          have hl1 := (Ppa.mustL_suf h1).length_le
          have C5 := Kept.mk (fun (W : World) (H : Re B b s st (false, r1) W) => until_e ⟨#[93, 93, 62]⟩ 93 [93, 62] rfl (by decide) (by decide) H)
          rw [show (⟨#[93, 93, 62]⟩ : ByteArray).data.toList = [93, 93, 62] from rfl] at C5
          cases h2 : Ppa.untilR [93, 93, 62] r1 with
          | error r2 =>
            rw [h2] at he
            subst he
            rw [untilS_is.2 r2 h2] at C5
            clear h63 h33 h45 hm hfr h1 h2
            go_enter Tryz.func60, Tryz.ntmps60
            go_wp2_with (first | (go_at_call 53; refine (C1.out _ P0.out).mono ?_; rintro e w1 ⟨rfl, H1, hb1⟩; have P1 := Kept.mk H1; have B1 := Kept.mk (B0.out.trans hb1); clear H1 hb1 C1) | (go_at_call 53; refine (C2.out _ P1.out).mono ?_; rintro e w2 ⟨rfl, H2, hb2⟩; have P2 := Kept.mk H2; have B2 := Kept.mk (B1.out.trans hb2); clear H2 hb2 C2) | (go_at_call 53; refine (C3.out _ P2.out).mono ?_; rintro e w3 ⟨rfl, H3, hb3⟩; have P3 := Kept.mk H3; have B3 := Kept.mk (B2.out.trans hb3); clear H3 hb3 C3) | (go_at_call 55; refine (C4.out _ P3.out).mono ?_; rintro e w4 ⟨rfl, H4, hb4⟩; have P4 := Kept.mk H4; have B4 := Kept.mk (B3.out.trans hb4); clear H4 hb4 C4) | (go_at_call 90; refine (C5.out _ P4.out).mono ?_; rintro e w5 ⟨rfl, H5, hb5⟩; have c2 := H5.c2; have P5 := Kept.mk H5; have B5 := Kept.mk (B4.out.trans hb5); clear H5 hb5 C5))
            go_end0
            exact ⟨rfl, endR_no P5.out, B5.out⟩
          | ok q =>
            obtain ⟨v, r2⟩ := q
            rw [h2] at he
            dsimp only at he
            subst he
            rw [untilS_is.1 v r2 h2] at C5
            have hvl : v.length ≤ r1.length := by
              unfold Ppa.untilR at h2
              cases hu : Ppa.untilM [93, 93, 62] r1 with
              | none => rw [hu] at h2; cases h2
              | some q =>
                rw [hu] at h2
                injection h2 with h2
                subst h2
                have := congrArg List.length (Ppa.untilM_app _ _ _ _ hu)
                rw [List.length_append, List.length_append] at this
                omega
            simp only [List.length_cons] at hll hm9
            have CD := Kept.mk (fun (W : World) => rsaid_any ⟨v.toArray⟩ W (by rw [Lib.size_mk]; omega))
            have hsl := Ppa.said_le v
            obtain ⟨V, hVV⟩ : ∃ V, Ppa.said v = V := ⟨_, rfl⟩
            have hcd : Ppa.said (⟨v.toArray⟩ : ByteArray).data.toList = V := hVV
            rw [hcd] at CD
            rw [hVV] at hsl ⊢
            have hvs : (⟨V.toArray⟩ : ByteArray).size = V.length := Lib.size_mk V
            clear h63 h33 h45 hm hfr h1 h2 hVV hcd
            go_enter Tryz.func60, Tryz.ntmps60
            go_wp2_with (first | (go_at_call 53; refine (C1.out _ P0.out).mono ?_; rintro e w1 ⟨rfl, H1, hb1⟩; have P1 := Kept.mk H1; have B1 := Kept.mk (B0.out.trans hb1); clear H1 hb1 C1) | (go_at_call 53; refine (C2.out _ P1.out).mono ?_; rintro e w2 ⟨rfl, H2, hb2⟩; have P2 := Kept.mk H2; have B2 := Kept.mk (B1.out.trans hb2); clear H2 hb2 C2) | (go_at_call 53; refine (C3.out _ P2.out).mono ?_; rintro e w3 ⟨rfl, H3, hb3⟩; have P3 := Kept.mk H3; have B3 := Kept.mk (B2.out.trans hb3); clear H3 hb3 C3) | (go_at_call 55; refine (C4.out _ P3.out).mono ?_; rintro e w4 ⟨rfl, H4, hb4⟩; have P4 := Kept.mk H4; have B4 := Kept.mk (B3.out.trans hb4); clear H4 hb4 C4) | (go_at_call 90; refine (C5.out _ P4.out).mono ?_; rintro e w5 ⟨rfl, H5, hb5⟩; have c2 := H5.c2; have P5 := Kept.mk H5; have B5 := Kept.mk (B4.out.trans hb5); clear H5 hb5 C5))
            obtain ⟨⟨A, c, vt⟩, H5⟩ := P5.out
            have K6 := Kept.mk H5
            have X := H5.ex
            obtain ⟨A5, c5, rfl, _⟩ := Flt.own_slice X.buf
            have d4 := X.c4
            dsimp only at d4
            clear X H5
            go_region_law (first | (go_simp; go_at_call 91; refine (CD.out _).mono ?_; rintro e w9 ⟨rfl, hb9⟩; have K9 := Kept.mk ((K6.out.below ((Below.refl _ w5).drew)).below hb9); have e4 := K9.out.ex.c4; have B9 := Kept.mk (B5.out.trans (((Below.refl _ w5).drew.mono K6.out.hB).trans (hb9.mono (K6.out.below ((Below.refl _ w5).drew)).hB))); clear hb9) | (refine step_append_string rfl (.tmp 42) (.tmp 44) rfl B (.slice A5 st.text.length c5) st.text.length (Lib.byteCells st.text) (by rfl) K9.out.ex.buf ⟨V.toArray⟩ (by rfl) (by rw [hvs]; omega) K9.out.hB ?_; intro v7 w7 ho7 hg7; have hb7 := (hg7.block b K9.out.ex.lt (fun e => K9.out.ex.bufn e.symm)).trans K9.out.ex.blk; have e7 : w7.cell? ⟨b, 4, none⟩ = some (.slice A5 st.text.length c5) := (by rw [cell_of_row w7 b _ _ _ _ hb7]; rfl); have f7 : w7.frozen? ⟨b, 4, none⟩ = false := Joins.unfrozen_of_block hb7 _; have ho8 : w7.ownsRow B 5 1 v7 (st.text ++ V).length (Lib.byteCells (st.text ++ V)) := (by rw [List.length_append, Lib.byteCells_append]; have h := ho7; rw [hvs] at h; exact h); obtain ⟨L8, hL8⟩ : ∃ L8, (st.text ++ V).length = L8 := ⟨_, rfl⟩; have ho9 := ho8; rw [hL8] at ho9; obtain ⟨A7, c7, rfl, _⟩ := Flt.own_slice ho9; have HP := Kept.mk (K9.out.text hg7 ho8); clear hL8 ho9 ho7 hg7 hb7 ho8))
            all_goals
              go_wp2
              go_end0
              exact ⟨rfl, endR_ok ⟨_, HP.out.1⟩, B9.out.trans HP.out.2⟩
    · have C2 := Kept.mk (fun W => is_en (B := B) (b := b) (s := s) (st := st) 33 33 rfl (by decide) (by decide) h33 W)
      rw [mark_elem h63 h33] at he
      cases f with
      | zero => unfold Ppa.elemF at he; cases he
      | succ f =>
        have CE := Kept.mk (fun (W : World) (H : Re B b s st (false, r) W) => relement_any (ihC f (by omega)) p fr (d + 1) H hm (by omega) hfr he)
        rw [show ((d + 1 : Nat) : Int) = (d : Int) + 1 by omega] at CE
        have d0 : (0 : Int) ≤ (d : Int) := by omega
        have d1 : (d : Int) ≤ 800000 := by omega
        clear h63 h33 hm hfr he ihC
        go_enter Tryz.func60, Tryz.ntmps60
        go_wp2_with (first | (go_at_call 53; refine (C1.out _ P0.out).mono ?_; rintro e w1 ⟨rfl, H1, hb1⟩; have P1 := Kept.mk H1; have B1 := Kept.mk (B0.out.trans hb1); clear H1 hb1 C1) | (go_at_call 53; refine (C2.out _ P1.out).mono ?_; rintro e w2 ⟨rfl, H2, hb2⟩; have P2 := Kept.mk H2; have B2 := Kept.mk (B1.out.trans hb2); clear H2 hb2 C2) | (go_at_call 57; refine (CE.out _ P2.out).mono ?_; rintro e w3 ⟨rfl, H3, hb3⟩; have P3 := Kept.mk H3; have B3 := Kept.mk (B2.out.trans hb3); clear H3 hb3 CE))
        go_end0
        exact ⟨rfl, P3.out, B3.out⟩
theorem both_r (B b : Nat) (s : ByteArray) (n : Nat) : ContR B b s n ∧ MarkR B b s n := by
  induction n using Nat.strongRecOn with
  | ind n ih =>
    refine ⟨rcontent_any (fun g hg => (ih g hg).2), ?_⟩
    cases n with
    | zero =>
      intro p fr d st r w o _ _ _ _ _ _ he
      unfold Ppa.markF at he
      cases he
    | succ f => exact rmarkup_any (fun g hg => (ih g (by omega)).1)
end
end Go.Proofs.YtlemdhfekdiaeaaGreatDoor.Wrd
namespace Go.Proofs.YtlemdhfekdiaeaaGreatDoor.Wrd
open Go Go.RowKit Go.Proofs.YtlemdhfekdiaeaaGreatDoor.Kb Go.Proofs.YtlemdhfekdiaeaaGreatDoor.Wch Go.Proofs.YtlemdhfekdiaeaaGreatDoor.Wps Go.Proofs.YtlemdhfekdiaeaaGreatDoor.Emk Go.PlainAid

def quoS (a : Ppa.Bs) (σ : Sg) : Sg := if σ.1 = true then σ else exS (Ppa.quotM a σ.2)
theorem quoS_true (a r : Ppa.Bs) : quoS a (true, r) = (true, r) := rfl
theorem quo_no {a : Ppa.Bs} {σ : Sg} (h1 : lk (blanksB (mustB [61] (blanksB σ))) ≠ 34) (h2 : lk (blanksB (mustB [61] (blanksB σ))) ≠ 39) : quoS a σ = (true, (blanksB (mustB [61] (blanksB σ))).2) := by
  obtain ⟨x, r⟩ := σ
  cases x
  · unfold quoS
    rw [if_neg (by simp)]
    rw [blanksB_false] at h1 h2 ⊢
    rw [mustB_ex] at h1 h2 ⊢
    cases e1 : Ppa.mustL [61] (Ppa.blanksL r) with
    | error t =>
      show exS (Ppa.quotM a r) = (true, t)
      unfold Ppa.quotM
      rw [e1]
      rfl
    | ok r1 =>
      rw [e1] at h1 h2
      have k1 := lk_head 34 (by decide) (by decide) 34 rfl h1
      have k2 := lk_head 39 (by decide) (by decide) 39 rfl h2
      show exS (Ppa.quotM a r) = (true, Ppa.blanksL r1)
      rw [quotM_none e1 k1 k2]
      rfl
  · rfl
theorem quo_yes {a : Ppa.Bs} {σ : Sg} {q : UInt8} (hq : q = 34 ∨ q = 39) (h : lk (blanksB (mustB [61] (blanksB σ))) = q.toNat) : ∃ t, blanksB (mustB [61] (blanksB σ)) = (false, q :: t) ∧ quoS a σ = exS (quotE q a t) := by
  obtain ⟨x, r⟩ := σ
  have hq0 : 0 < q.toNat := by rcases hq with rfl | rfl <;> decide
  have hql : q.toNat < 128 := by rcases hq with rfl | rfl <;> decide
  cases x
  · rw [blanksB_false] at h ⊢
    rw [mustB_ex] at h ⊢
    cases e1 : Ppa.mustL [61] (Ppa.blanksL r) with
    | error t =>
      rw [e1] at h
      have : lk (true, t) = q.toNat := h
      rw [lk_bad] at this
      omega
    | ok r1 =>
      rw [e1] at h
      obtain ⟨t, ht⟩ := lk_cons q hql hq0 q.toNat rfl (r := Ppa.blanksL r1) h
      refine ⟨t, ?_, ?_⟩
      · show (false, Ppa.blanksL r1) = _
        rw [ht]
      · unfold quoS
        rw [if_neg (by simp)]
        show exS (Ppa.quotM a r) = _
        rw [quotM_some e1 ht hq]
  · have : lk (true, r) = q.toNat := h
    rw [lk_bad] at this
    omega
/-- the rest of a quoted word -/
def QX (q : UInt8) (a : Ppa.Bs) (T : Sg) (r : Ppa.Bs) : Prop := exS (quotE q a r) = T
theorem drop_byte (a : ByteArray) (i : Nat) (h : i < a.size) : ∃ c : UInt8, c ∈ a.data.toList ∧ a.data.toList.drop i = c :: a.data.toList.drop (i + 1) ∧ bt a i = (c.toNat : Int) := by
  have hl : i < a.data.toList.length := by rw [size_len]; exact h
  refine ⟨a.data.toList[i], List.getElem_mem hl, List.drop_eq_getElem_cons hl, ?_⟩
  rw [bt_getD, List.getD_eq_getElem?_getD, List.getElem?_eq_getElem hl]
  rfl
section
variable {B b : Nat} {s : ByteArray} {st : Ppa.St} {σ : Sg} {w : World}
set_option maxRecDepth 100000 in
set_option maxHeartbeats 8000000 in
theorem rquoted_any (a : ByteArray) (ha : ∀ c ∈ a.data.toList, 32 < c.toNat ∧ c.toNat ≤ 122) (hz : a.size ≤ 1000) (h : Re B b s st σ w) :
    Calls Tryz.prog 87 #[.pointer (some ⟨b, 0, none⟩), .string a] w fun e w' => e = .returned (.tuple #[]) ∧ Re B b s st (quoS a.data.toList σ) w' ∧ Below B w w' := by
  have B0 := Kept.mk (Below.refl B w)
  have C1 := Kept.mk (blanks_e h)
  obtain ⟨σ1, h1⟩ : ∃ σ1, blanksB σ = σ1 := ⟨_, rfl⟩
  obtain ⟨σ2, h2⟩ : ∃ σ2, mustB [61] σ1 = σ2 := ⟨_, rfl⟩
  obtain ⟨σ3, h3⟩ : ∃ σ3, blanksB σ2 = σ3 := ⟨_, rfl⟩
  have C2 := Kept.mk (fun (W : World) (H : Re B b s st σ1 W) => must_e ⟨#[61]⟩ (by decide) (by decide) H)
  rw [show (⟨#[61]⟩ : ByteArray).data.toList = [61] from rfl, h2] at C2
  have C3 := Kept.mk (fun (W : World) (H : Re B b s st σ2 W) => blanks_e H)
  rw [h3] at C3
  rw [h1] at C1
  have CL := Kept.mk (fun (W : World) (H : Re B b s st σ3 W) => look_e H)
  have hno := quo_no (a := a.data.toList) (σ := σ)
  have hyes := fun q (hq : q = 34 ∨ q = 39) => quo_yes (a := a.data.toList) (σ := σ) hq
  rw [h1, h2, h3] at hno hyes
  have HA := Kept.mk ha
  clear h1 h2 h3 h ha
  by_cases hq : lk σ3 = 34 ∨ lk σ3 = 39
  · obtain ⟨q, hqq, hqn⟩ : ∃ q : UInt8, (q = 34 ∨ q = 39) ∧ lk σ3 = q.toNat := by
      rcases hq with e | e
      · exact ⟨34, .inl rfl, e⟩
      · exact ⟨39, .inr rfl, e⟩
    obtain ⟨t, rfl, hT⟩ := hyes q hqq hqn
    generalize hTT : quoS a.data.toList σ = T at hT
    have HT : Kept (QX q (a.data.toList.drop 0) T t) := ⟨hT.symm⟩
    have hql : q.toNat < 128 := by rcases hqq with rfl | rfl <;> decide
    have CS := Kept.mk (fun (W : World) (H : Re B b s st (false, q :: t) W) => step_e H (by simp))
    dsimp only at CS
    rw [skip_low q t hql] at CS
    rw [hqn] at CL
    have CI := Kept.mk (fun (r' : Ppa.Bs) (W : World) (H : Re B b s st (false, r') W) => is_e q.toNat (by rcases hqq with rfl | rfl <;> decide) H)
    have HQ := Kept.mk hqq
    have HQL := Kept.mk hql
    clear hq hqn hT hTT hno hyes hql hqq
    obtain ⟨Q, hQ⟩ : ∃ Q : Nat, q.toNat = Q := ⟨_, rfl⟩
    rw [hQ] at CL CI
    have HQQ := Kept.mk hQ
    have hQ2 : Q = 34 ∨ Q = 39 := by rcases HQ.out with rfl | rfl <;> simp [← hQ]
    clear hQ
    rcases hQ2 with hQ2 | hQ2
    all_goals
      subst hQ2
      go_enter Tryz.func87, Tryz.ntmps87
      go_wp2_with (first | (go_at_call 86; refine (C1.out).mono ?_; rintro e w1 ⟨rfl, H1, hb1⟩; have P1 := Kept.mk H1; have B1 := Kept.mk (B0.out.trans hb1); clear H1 hb1 C1) | (go_at_call 55; refine (C2.out _ P1.out).mono ?_; rintro e w2 ⟨rfl, H2, hb2⟩; have P2 := Kept.mk H2; have B2 := Kept.mk (B1.out.trans hb2); clear H2 hb2 C2) | (go_at_call 86; refine (C3.out _ P2.out).mono ?_; rintro e w3 ⟨rfl, H3, hb3⟩; have P3 := Kept.mk H3; have B3 := Kept.mk (B2.out.trans hb3); clear H3 hb3 C3) | (go_at_call 50; refine (CL.out _ P3.out).mono ?_; rintro e w4 ⟨rfl, H4, hb4⟩; have P4 := Kept.mk H4; have B4 := Kept.mk (B3.out.trans hb4); clear H4 hb4 CL) | (go_at_call 51; refine (CS.out _ P4.out).mono ?_; rintro e w5 ⟨rfl, H5, hb5⟩; have P5 := Kept.mk H5; have B5 := Kept.mk (B4.out.trans hb5); clear H5 hb5 CS))
      go_loopg [5, 6] a.size (fun g i _ wx => ∃ (k : Nat) (r' : Ppa.Bs), i = .int .i64 (k : Int) ∧ k + g = a.size ∧ Kept (Re B b s st (false, r') wx) ∧ Kept (Below B w wx) ∧ Kept (QX q (a.data.toList.drop k) T r'))
      case atStart => exact ⟨0, t, rfl, by omega, P5, B5, HT⟩
      case round =>
        obtain ⟨k, r', rfl, hk, HP, BW, HX⟩ := hrel
        clear P1 P2 P3 P4 P5 B1 B2 B3 B4 B5 HT
        have k0 : (0 : Int) ≤ (k : Int) := by omega
        have k2 : (k : Int) ≤ 1000 := by omega
        have bd := HP.out.c2
        dsimp only at bd
        by_cases hlt : k < a.size
        · have k1 : (k : Int) < (a.size : Int) := by omega
          obtain ⟨g, rfl⟩ : ∃ g, gk = g + 1 := ⟨gk - 1, by omega⟩
          obtain ⟨c, hmem, hdr, hbt⟩ := drop_byte a k hlt
          have hcr := HA.out c hmem
          have hX := HX.out
          unfold QX at hX
          rw [hdr] at hX
          have hb := get_bt a
          have c0 : (32 : Int) < (c.toNat : Int) := by omega
          have c1 : (c.toNat : Int) ≤ 122 := by omega
          have c9 : ¬ (122 : Int) < (c.toNat : Int) := by omega
          have CL := Kept.mk (look_e HP.out)
          have CLL := Kept.mk (fun (W : World) (H : Re B b s st (false, r') W) => look_e H)
          clear hmem hdr HX
          by_cases hx : r'.head? = some c
          · obtain ⟨u, rfl⟩ := head_cons hx
            rw [quotE_eq (.inl rfl)] at hX
            have hlk := lk_low c u (by omega)
            rw [hlk] at CL CLL
            have CS2 := Kept.mk (fun (W : World) (H : Re B b s st (false, c :: u) W) => step_e H (by simp))
            dsimp only at CS2
            rw [skip_low c u (by omega)] at CS2
            have HY : Kept (QX q (a.data.toList.drop (k + 1)) T u) := ⟨hX⟩
            clear hX hx hlk hcr
            generalize c.toNat = c at *
            go_wp2_with (first | (go_at_call 50; refine (CL.out).mono ?_; rintro e w2 ⟨rfl, H2, hb2⟩; have P2 := Kept.mk H2; have B2 := Kept.mk (BW.out.trans hb2); clear H2 hb2 CL) | (go_at_call 51; refine (CS2.out _ P2.out).mono ?_; rintro e w3 ⟨rfl, H3, hb3⟩; have P3 := Kept.mk H3; have B3 := Kept.mk (B2.out.trans hb3); clear H3 hb3 CS2))
            go_roundg g
            case measure => omega
            case rel => exact ⟨k + 1, u, by go_num, by omega, P3, B3, HY⟩
          · by_cases hy : 97 ≤ c.toNat ∧ r'.head? = some (c - 32)
            · obtain ⟨h97, hy⟩ := hy
              obtain ⟨u, rfl⟩ := head_cons hy
              have hsub : (c - 32).toNat = c.toNat - 32 := by
                rw [UInt8.toNat_sub_of_le _ _ (by rw [UInt8.le_iff_toNat_le]; show 32 ≤ c.toNat; omega)]
                rfl
              rw [quotE_eq (.inr ⟨by rw [UInt8.le_iff_toNat_le]; exact h97, rfl⟩)] at hX
              have hlk := lk_low (c - 32) u (by omega)
              rw [hlk, hsub] at CL CLL
              have CS2 := Kept.mk (fun (W : World) (H : Re B b s st (false, (c - 32) :: u) W) => step_e H (by simp))
              dsimp only at CS2
              rw [skip_low (c - 32) u (by omega)] at CS2
              have HY : Kept (QX q (a.data.toList.drop (k + 1)) T u) := ⟨hX⟩
              obtain ⟨L, hL⟩ : ∃ L, c.toNat - 32 = L := ⟨_, rfl⟩
              have e1 : ¬ (L : Int) = (c.toNat : Int) := by omega
              have e2 : (c.toNat : Int) - 32 = (L : Int) := by omega
              have e3 : ¬ (c.toNat : Int) < 97 := by omega
              have e4 : ((L : Int) != (c.toNat : Int)) = true := by simpa using e1
              rw [hL] at CL CLL
              clear hX hx hy hlk hsub hL hcr
              generalize c.toNat = c at *
              go_wp2_with (first | (go_at_call 50; refine (CL.out).mono ?_; rintro e w2 ⟨rfl, H2, hb2⟩; have P2 := Kept.mk H2; have B2 := Kept.mk (BW.out.trans hb2); clear H2 hb2 CL) | (go_at_call 50; refine (CLL.out _ P2.out).mono ?_; rintro e w4 ⟨rfl, H4, hb4⟩; have P4 := Kept.mk H4; have B4 := Kept.mk (B2.out.trans hb4); clear H4 hb4) | (go_at_call 51; refine (CS2.out _ P4.out).mono ?_; rintro e w3 ⟨rfl, H3, hb3⟩; have P3 := Kept.mk H3; have B3 := Kept.mk (B4.out.trans hb3); clear H3 hb3 CS2))
              go_roundg g
              case measure => omega
              case rel => exact ⟨k + 1, u, by go_num, by omega, P3, B3, HY⟩
            · rw [quotE_ne (fun x t e h => by
                subst e
                rcases h with rfl | ⟨h97, rfl⟩
                · exact hx rfl
                · exact hy ⟨by rw [UInt8.le_iff_toNat_le] at h97; exact h97, rfl⟩)] at hX
              have hTe : Kept (T = (true, r')) := ⟨hX.symm⟩
              have n1 : ¬ lk (false, r') = c.toNat := fun e => hx ((lk_is c (by omega) (by omega) r').1 e)
              have n2 : 97 ≤ c.toNat → ¬ lk (false, r') = c.toNat - 32 := fun h97 e => hy ⟨h97, by
                have hsub : (c - 32).toNat = c.toNat - 32 := by
                  rw [UInt8.toNat_sub_of_le _ _ (by rw [UInt8.le_iff_toNat_le]; show 32 ≤ c.toNat; omega)]
                  rfl
                exact (lk_is (c - 32) (by omega) (by omega) r').1 (by rw [e, hsub])⟩
              generalize lk (false, r') = L at CL CLL n1 n2
              have e1 : ¬ (L : Int) = (c.toNat : Int) := by omega
              have e4 : ((L : Int) != (c.toNat : Int)) = true := by simpa using e1
              clear hX hx hy hcr
              by_cases h97 : 97 ≤ c.toNat
              · have e3 : ¬ (c.toNat : Int) < 97 := by omega
                have e5 : ¬ (L : Int) = (c.toNat : Int) - 32 := by have := n2 h97; omega
                have e6 : ((L : Int) != (c.toNat : Int) - 32) = true := by simpa using e5
                clear n1 n2 h97
                generalize c.toNat = c at *
                go_wp2_with (first | (go_at_call 50; refine (CL.out).mono ?_; rintro e w2 ⟨rfl, H2, hb2⟩; have P2 := Kept.mk H2; have B2 := Kept.mk (BW.out.trans hb2); clear H2 hb2 CL) | (go_at_call 50; refine (CLL.out _ P2.out).mono ?_; rintro e w4 ⟨rfl, H4, hb4⟩; have P4 := Kept.mk H4; have B4 := Kept.mk (B2.out.trans hb4); clear H4 hb4) | (go_at_call 52; refine (no_e P4.out).mono ?_; rintro e w5 ⟨rfl, H5, hb5⟩; have P5 := Kept.mk H5; have B5 := Kept.mk (B4.out.trans hb5); clear H5 hb5))
                refine bodyPost_ret (results_none rfl _ _ _) rfl ?_
                rw [hTe.out]
                exact ⟨rfl, P5.out, B5.out⟩
              · have e3 : (c.toNat : Int) < 97 := by omega
                clear n1 n2 h97
                generalize c.toNat = c at *
                go_wp2_with (first | (go_at_call 50; refine (CL.out).mono ?_; rintro e w2 ⟨rfl, H2, hb2⟩; have P2 := Kept.mk H2; have B2 := Kept.mk (BW.out.trans hb2); clear H2 hb2 CL) | (go_at_call 52; refine (no_e P2.out).mono ?_; rintro e w5 ⟨rfl, H5, hb5⟩; have P5 := Kept.mk H5; have B5 := Kept.mk (B2.out.trans hb5); clear H5 hb5))
                refine bodyPost_ret (results_none rfl _ _ _) rfl ?_
                rw [hTe.out]
                exact ⟨rfl, P5.out, B5.out⟩
        · have k1 : ¬ (k : Int) < (a.size : Int) := by omega
          have hX := HX.out
          unfold QX at hX
          rw [List.drop_eq_nil_of_le (by rw [size_len]; omega)] at hX
          have hX2 : exS (Ppa.mustL [q] r') = T := hX
          rw [← mustB_ex] at hX2
          clear hX HX
          by_cases hh : r'.head? = some q
          · obtain ⟨u, rfl⟩ := head_cons hh
            have hiy := isS_yes HQQ.out HQL.out u
            have CI2 := Kept.mk (CI.out (q :: u))
            rw [hiy.2, decide_eq_true hiy.1] at CI2
            have hTe : Kept (T = (false, u)) := ⟨by rw [← hX2, mustB_eq, mustB_nil]⟩
            clear hX2 hiy hh
            go_wp2_with (first | (go_at_call 53; refine (CI2.out _ HP.out).mono ?_; rintro e w2 ⟨rfl, H2, hb2⟩; have P2 := Kept.mk H2; have B2 := Kept.mk (BW.out.trans hb2); clear H2 hb2 CI2))
            go_end0
            rw [hTe.out]
            exact ⟨rfl, P2.out, B2.out⟩
          · have hin := isS_no HQQ.out HQL.out (by decide) hh
            have CI2 := Kept.mk (CI.out r')
            rw [hin.2, decide_eq_false hin.1] at CI2
            have hTe : Kept (T = (true, r')) := ⟨by rw [← hX2, mustB_ne hh]⟩
            clear hX2 hin hh
            go_wp2_with (first | (go_at_call 53; refine (CI2.out _ HP.out).mono ?_; rintro e w2 ⟨rfl, H2, hb2⟩; have P2 := Kept.mk H2; have B2 := Kept.mk (BW.out.trans hb2); clear H2 hb2 CI2) | (go_at_call 52; refine (no_e P2.out).mono ?_; rintro e w3 ⟨rfl, H3, hb3⟩; have P3 := Kept.mk H3; have B3 := Kept.mk (B2.out.trans hb3); clear H3 hb3))
            go_end0
            rw [hTe.out]
            exact ⟨rfl, P3.out, B3.out⟩
  · have hn := hno (fun e => hq (.inl e)) (fun e => hq (.inr e))
    rw [hn]
    generalize hC : lk σ3 = C at CL hq
    have i1 : ¬ (C : Int) = 34 := fun e => hq (.inl (by omega))
    have i2 : ¬ (C : Int) = 39 := fun e => hq (.inr (by omega))
    have j1 : ((C : Int) != 34) = true := by simpa using i1
    have j2 : ((C : Int) != 39) = true := by simpa using i2
    clear hq hn hno hyes hC
    go_enter Tryz.func87, Tryz.ntmps87
    go_wp2_with (first | (go_at_call 86; refine (C1.out).mono ?_; rintro e w1 ⟨rfl, H1, hb1⟩; have P1 := Kept.mk H1; have B1 := Kept.mk (B0.out.trans hb1); clear H1 hb1 C1) | (go_at_call 55; refine (C2.out _ P1.out).mono ?_; rintro e w2 ⟨rfl, H2, hb2⟩; have P2 := Kept.mk H2; have B2 := Kept.mk (B1.out.trans hb2); clear H2 hb2 C2) | (go_at_call 86; refine (C3.out _ P2.out).mono ?_; rintro e w3 ⟨rfl, H3, hb3⟩; have P3 := Kept.mk H3; have B3 := Kept.mk (B2.out.trans hb3); clear H3 hb3 C3) | (go_at_call 50; refine (CL.out _ P3.out).mono ?_; rintro e w4 ⟨rfl, H4, hb4⟩; have P4 := Kept.mk H4; have B4 := Kept.mk (B3.out.trans hb4); clear H4 hb4 CL) | (go_at_call 52; refine (no_e P4.out).mono ?_; rintro e w5 ⟨rfl, H5, hb5⟩; have P5 := Kept.mk H5; have B5 := Kept.mk (B4.out.trans hb5); clear H5 hb5))
    refine bodyPost_ret (results_none rfl _ _ _) rfl ?_
    exact ⟨rfl, P5.out, B5.out⟩
/-- a declaration, as the document's reader goes through it -/
theorem decl_is {r : Ppa.Bs} {σ3 : Sg} (h3 : quoS [49, 46, 48] (mustB [118, 101, 114, 115, 105, 111, 110] (blanksB (false, r))) = σ3) :
    exS (Ppa.declM r) = (if blkN (lk σ3) = true ∧ lk (blanksB σ3) = 101 then mustB [63, 62] (blanksB (quoS [117, 116, 102, 45, 56] (mustB [101, 110, 99, 111, 100, 105, 110, 103] (blanksB σ3)))) else mustB [63, 62] (blanksB σ3)) := by
  rw [Ppa.declM_eq]
  rw [blanksB_false, mustB_ex] at h3
  cases e1 : Ppa.mustL [118, 101, 114, 115, 105, 111, 110] (Ppa.blanksL r) with
  | error t =>
    rw [e1] at h3
    have h3 : (true, t) = σ3 := h3
    subst h3
    rw [lk_bad]
    rfl
  | ok r1 =>
    rw [e1] at h3
    have h3 : exS (Ppa.quotM [49, 46, 48] r1) = σ3 := h3
    dsimp only
    cases e2 : Ppa.quotM [49, 46, 48] r1 with
    | error t =>
      rw [e2] at h3
      have h3 : (true, t) = σ3 := h3
      subst h3
      rw [lk_bad]
      rfl
    | ok r2 =>
      rw [e2] at h3
      have h3 : (false, r2) = σ3 := h3
      subst h3
      dsimp only
      rw [blanksB_false, blk_lk]
      have h101 := lk_is 101 (by decide) (by decide) (Ppa.blanksL r2)
      rw [show (101 : UInt8).toNat = 101 from rfl] at h101
      simp only [Bool.not_false, Bool.true_and, h101]
      split
      · rw [mustB_ex]
        cases e3 : Ppa.mustL [101, 110, 99, 111, 100, 105, 110, 103] (Ppa.blanksL r2) with
        | error t => rfl
        | ok r3 =>
          show exS (match Ppa.quotM [117, 116, 102, 45, 56] r3 with | .error r4 => .error r4 | .ok r4 => Ppa.mustL [63, 62] (Ppa.blanksL r4)) = mustB [63, 62] (blanksB (exS (Ppa.quotM [117, 116, 102, 45, 56] r3)))
          cases e4 : Ppa.quotM [117, 116, 102, 45, 56] r3 with
          | error t => rfl
          | ok r4 => exact (mustB_ex _ _).symm
      · exact (mustB_ex _ _).symm
end
end Go.Proofs.YtlemdhfekdiaeaaGreatDoor.Wrd
namespace Go.Proofs.YtlemdhfekdiaeaaGreatDoor.Wrd
open Go Go.RowKit Go.Proofs.YtlemdhfekdiaeaaGreatDoor.Kb Go.Proofs.YtlemdhfekdiaeaaGreatDoor.Wch Go.Proofs.YtlemdhfekdiaeaaGreatDoor.Wps Go.Proofs.YtlemdhfekdiaeaaGreatDoor.Emk Go.PlainAid

section
variable {B b : Nat} {s : ByteArray} {st : Ppa.St} {σ : Sg} {w : World}
set_option maxRecDepth 100000 in
set_option maxHeartbeats 8000000 in
theorem rdecl_any {r : Ppa.Bs} (h : Re B b s st (false, r) w) :
    Calls Tryz.prog 49 #[.pointer (some ⟨b, 0, none⟩)] w fun e w' => e = .returned (.tuple #[]) ∧ Re B b s st (exS (Ppa.declM r)) w' ∧ Below B w w' := by
  have B0 := Kept.mk (Below.refl B w)
  obtain ⟨σ2, h2⟩ : ∃ σ2, mustB [118, 101, 114, 115, 105, 111, 110] (blanksB (false, r)) = σ2 := ⟨_, rfl⟩
  obtain ⟨σ3, h3⟩ : ∃ σ3, quoS [49, 46, 48] σ2 = σ3 := ⟨_, rfl⟩
  have hD := decl_is (r := r) (σ3 := σ3) (by rw [h2]; exact h3)
  obtain ⟨σ5, h5⟩ : ∃ σ5, mustB [101, 110, 99, 111, 100, 105, 110, 103] (blanksB σ3) = σ5 := ⟨_, rfl⟩
  obtain ⟨σ6, h6⟩ : ∃ σ6, quoS [117, 116, 102, 45, 56] σ5 = σ6 := ⟨_, rfl⟩
  rw [h5, h6] at hD
  rw [hD]
  have C1 := Kept.mk (blanks_e h)
  have C2 := Kept.mk (fun (W : World) (H : Re B b s st (blanksB (false, r)) W) => must_e ⟨#[118, 101, 114, 115, 105, 111, 110]⟩ (by decide) (by decide) H)
  rw [show (⟨#[118, 101, 114, 115, 105, 111, 110]⟩ : ByteArray).data.toList = [118, 101, 114, 115, 105, 111, 110] from rfl, h2] at C2
  have C3 := Kept.mk (fun (W : World) (H : Re B b s st σ2 W) => rquoted_any ⟨#[49, 46, 48]⟩ (by decide) (by decide) H)
  rw [show (⟨#[49, 46, 48]⟩ : ByteArray).data.toList = [49, 46, 48] from rfl, h3] at C3
  have CL := Kept.mk (fun (W : World) (H : Re B b s st σ3 W) => look_e H)
  have CB := Kept.mk (fun (W : World) => rblank_any (lk σ3) W)
  have C4 := Kept.mk (fun (W : World) (H : Re B b s st σ3 W) => blanks_e H)
  have CL2 := Kept.mk (fun (W : World) (H : Re B b s st (blanksB σ3) W) => look_e H)
  have C5 := Kept.mk (fun (W : World) (H : Re B b s st (blanksB σ3) W) => must_e ⟨#[101, 110, 99, 111, 100, 105, 110, 103]⟩ (by decide) (by decide) H)
  rw [show (⟨#[101, 110, 99, 111, 100, 105, 110, 103]⟩ : ByteArray).data.toList = [101, 110, 99, 111, 100, 105, 110, 103] from rfl, h5] at C5
  have C6 := Kept.mk (fun (W : World) (H : Re B b s st σ5 W) => rquoted_any ⟨#[117, 116, 102, 45, 56]⟩ (by decide) (by decide) H)
  rw [show (⟨#[117, 116, 102, 45, 56]⟩ : ByteArray).data.toList = [117, 116, 102, 45, 56] from rfl, h6] at C6
  have C7 := Kept.mk (fun (W : World) (H : Re B b s st σ6 W) => blanks_e H)
  have C8 := Kept.mk (fun (σ9 : Sg) (W : World) (H : Re B b s st σ9 W) => must_e ⟨#[63, 62]⟩ (by decide) (by decide) H)
  rw [show (⟨#[63, 62]⟩ : ByteArray).data.toList = [63, 62] from rfl] at C8
  clear h h2 h3 h5 h6 hD
  obtain ⟨σ1, hσ1⟩ : ∃ σ1, blanksB (false, r) = σ1 := ⟨_, rfl⟩
  rw [hσ1] at C1 C2
  clear hσ1
  obtain ⟨σ4, hσ4⟩ : ∃ σ4, blanksB σ3 = σ4 := ⟨_, rfl⟩
  rw [hσ4] at C4 CL2 C5 ⊢
  clear hσ4
  obtain ⟨σ7, hσ7⟩ : ∃ σ7, blanksB σ6 = σ7 := ⟨_, rfl⟩
  rw [hσ7] at C7 ⊢
  clear hσ7
  generalize lk σ3 = D3 at CL CB ⊢
  generalize lk σ4 = D4 at CL2 ⊢
  cases hm : blkN D3 with
  | false =>
    rw [hm] at CB
    rw [if_neg (by rintro ⟨h, _⟩; cases h)]
    generalize hR : mustB [63, 62] σ4 = R
    have C9 := Kept.mk (C8.out σ4)
    rw [hR] at C9
    clear hm hR C8
    go_enter Tryz.func49, Tryz.ntmps49
    go_wp2_with (first | (go_at_call 86; refine (C1.out).mono ?_; rintro e w1 ⟨rfl, H1, hb1⟩; have P1 := Kept.mk H1; have B1 := Kept.mk (B0.out.trans hb1); clear H1 hb1 C1) | (go_at_call 55; refine (C2.out _ P1.out).mono ?_; rintro e w2 ⟨rfl, H2, hb2⟩; have P2 := Kept.mk H2; have B2 := Kept.mk (B1.out.trans hb2); clear H2 hb2 C2) | (go_at_call 87; refine (C3.out _ P2.out).mono ?_; rintro e w3 ⟨rfl, H3, hb3⟩; have P3 := Kept.mk H3; have B3 := Kept.mk (B2.out.trans hb3); clear H3 hb3 C3) | (go_at_call 50; refine (CL.out _ P3.out).mono ?_; rintro e w4 ⟨rfl, H4, hb4⟩; have P4 := Kept.mk H4; have B4 := Kept.mk (B3.out.trans hb4); clear H4 hb4 CL) | (go_at_call 48; refine (CB.out _).mono ?_; rintro e w15 ⟨rfl, rfl⟩) | (go_at_call 86; refine (C4.out _ P4.out).mono ?_; rintro e w5 ⟨rfl, H5, hb5⟩; have P5 := Kept.mk H5; have B5 := Kept.mk (B4.out.trans hb5); clear H5 hb5 C4) | (go_at_call 55; refine (C9.out _ P5.out).mono ?_; rintro e w9 ⟨rfl, H9, hb9⟩; have P9 := Kept.mk H9; have B9 := Kept.mk (B5.out.trans hb9); clear H9 hb9 C9))
    go_end0
    exact ⟨rfl, P9.out, B9.out⟩
  | true =>
    rw [hm] at CB
    by_cases h101 : D4 = 101
    · subst h101
      rw [if_pos ⟨rfl, rfl⟩]
      generalize hR : mustB [63, 62] σ7 = R
      have C9 := Kept.mk (C8.out σ7)
      rw [hR] at C9
      clear hm hR C8
      go_enter Tryz.func49, Tryz.ntmps49
      go_wp2_with (first | (go_at_call 86; refine (C1.out).mono ?_; rintro e w1 ⟨rfl, H1, hb1⟩; have P1 := Kept.mk H1; have B1 := Kept.mk (B0.out.trans hb1); clear H1 hb1 C1) | (go_at_call 55; refine (C2.out _ P1.out).mono ?_; rintro e w2 ⟨rfl, H2, hb2⟩; have P2 := Kept.mk H2; have B2 := Kept.mk (B1.out.trans hb2); clear H2 hb2 C2) | (go_at_call 87; refine (C3.out _ P2.out).mono ?_; rintro e w3 ⟨rfl, H3, hb3⟩; have P3 := Kept.mk H3; have B3 := Kept.mk (B2.out.trans hb3); clear H3 hb3 C3) | (go_at_call 50; refine (CL.out _ P3.out).mono ?_; rintro e w4 ⟨rfl, H4, hb4⟩; have P4 := Kept.mk H4; have B4 := Kept.mk (B3.out.trans hb4); clear H4 hb4 CL) | (go_at_call 48; refine (CB.out _).mono ?_; rintro e w15 ⟨rfl, rfl⟩) | (go_at_call 86; refine (C4.out _ P4.out).mono ?_; rintro e w5 ⟨rfl, H5, hb5⟩; have P5 := Kept.mk H5; have B5 := Kept.mk (B4.out.trans hb5); clear H5 hb5 C4) | (go_at_call 50; refine (CL2.out _ P5.out).mono ?_; rintro e w6 ⟨rfl, H6, hb6⟩; have P6 := Kept.mk H6; have B6 := Kept.mk (B5.out.trans hb6); clear H6 hb6 CL2) | (go_at_call 55; refine (C5.out _ P6.out).mono ?_; rintro e w7 ⟨rfl, H7, hb7⟩; have P7 := Kept.mk H7; have B7 := Kept.mk (B6.out.trans hb7); clear H7 hb7 C5) | (go_at_call 87; refine (C6.out _ P7.out).mono ?_; rintro e w8 ⟨rfl, H8, hb8⟩; have P8 := Kept.mk H8; have B8 := Kept.mk (B7.out.trans hb8); clear H8 hb8 C6) | (go_at_call 86; refine (C7.out _ P8.out).mono ?_; rintro e w11 ⟨rfl, H11, hb11⟩; have P11 := Kept.mk H11; have B11 := Kept.mk (B8.out.trans hb11); clear H11 hb11 C7) | (go_at_call 55; refine (C9.out _ P11.out).mono ?_; rintro e w12 ⟨rfl, H12, hb12⟩; have P12 := Kept.mk H12; have B12 := Kept.mk (B11.out.trans hb12); clear H12 hb12 C9))
      go_end0
      exact ⟨rfl, P12.out, B12.out⟩
    · rw [if_neg (fun h => h101 h.2)]
      generalize hR : mustB [63, 62] σ4 = R
      have C9 := Kept.mk (C8.out σ4)
      rw [hR] at C9
      have n1 : ¬ (D4 : Int) = 101 := by omega
      have n2 : ((D4 : Int) == 101) = false := by simpa using n1
      clear hm hR C8 h101
      go_enter Tryz.func49, Tryz.ntmps49
      go_wp2_with (first | (go_at_call 86; refine (C1.out).mono ?_; rintro e w1 ⟨rfl, H1, hb1⟩; have P1 := Kept.mk H1; have B1 := Kept.mk (B0.out.trans hb1); clear H1 hb1 C1) | (go_at_call 55; refine (C2.out _ P1.out).mono ?_; rintro e w2 ⟨rfl, H2, hb2⟩; have P2 := Kept.mk H2; have B2 := Kept.mk (B1.out.trans hb2); clear H2 hb2 C2) | (go_at_call 87; refine (C3.out _ P2.out).mono ?_; rintro e w3 ⟨rfl, H3, hb3⟩; have P3 := Kept.mk H3; have B3 := Kept.mk (B2.out.trans hb3); clear H3 hb3 C3) | (go_at_call 50; refine (CL.out _ P3.out).mono ?_; rintro e w4 ⟨rfl, H4, hb4⟩; have P4 := Kept.mk H4; have B4 := Kept.mk (B3.out.trans hb4); clear H4 hb4 CL) | (go_at_call 48; refine (CB.out _).mono ?_; rintro e w15 ⟨rfl, rfl⟩) | (go_at_call 86; refine (C4.out _ P4.out).mono ?_; rintro e w5 ⟨rfl, H5, hb5⟩; have P5 := Kept.mk H5; have B5 := Kept.mk (B4.out.trans hb5); clear H5 hb5 C4) | (go_at_call 50; refine (CL2.out _ P5.out).mono ?_; rintro e w6 ⟨rfl, H6, hb6⟩; have P6 := Kept.mk H6; have B6 := Kept.mk (B5.out.trans hb6); clear H6 hb6 CL2) | (go_at_call 55; refine (C9.out _ P6.out).mono ?_; rintro e w9 ⟨rfl, H9, hb9⟩; have P9 := Kept.mk H9; have B9 := Kept.mk (B6.out.trans hb9); clear H9 hb9 C9))
      go_end0
      exact ⟨rfl, P9.out, B9.out⟩
/-- how a document ends -/
def EndD (B b : Nat) (s : ByteArray) (o : Except Ppa.Bs Ppa.St) (w : World) : Prop := match o with
  | .ok st => ∃ r, Re B b s st (false, r) w
  | .error t => ∃ st, Re B b s st (true, t) w
theorem endD_ok {r : Ppa.Bs} (h : Re B b s st (false, r) w) : EndD B b s (.ok st) w := ⟨r, h⟩
theorem endD_no {t : Ppa.Bs} (h : Re B b s st (true, t) w) : EndD B b s (.error t) w := ⟨st, h⟩
theorem docF_same {N f : Nat} {done : Bool} {r r2 : Ppa.Bs} {st : Ppa.St} (h : Ppa.blanksL r = Ppa.blanksL r2) : Ppa.docF N f done r st = Ppa.docF N f done r2 st := by
  cases f with
  | zero => rw [Ppa.docF, Ppa.docF]
  | succ f => rw [Ppa.docF, Ppa.docF, h]
/-- how a document goes on -/
def DocX (N : Nat) (o : Except Ppa.Bs Ppa.St) (R g : Nat) (done : Bool) (st : Ppa.St) (σ : Sg) : Prop := if σ.1 = true then o = .error σ.2 else Ppa.docF N g done σ.2 st = some o ∧ Ppa.meas st σ.2 ≤ 800000 ∧ σ.2.length ≤ R
theorem docX_bad {N R g : Nat} {done : Bool} {st : Ppa.St} {t : Ppa.Bs} : DocX N (.error t) R g done st (true, t) := by unfold DocX; rw [if_pos rfl]
theorem docX_good {N R g : Nat} {done : Bool} {st : Ppa.St} {t : Ppa.Bs} {o : Except Ppa.Bs Ppa.St} (h : Ppa.docF N g done t st = some o) (hm : Ppa.meas st t ≤ 800000) (hr : t.length ≤ R) : DocX N o R g done st (false, t) := by unfold DocX; rw [if_neg (by simp)]; exact ⟨h, hm, hr⟩
/-- what follows a part of a document -/
def nextD (N g : Nat) (done : Bool) (x : Except Ppa.Bs (Ppa.Bs × Ppa.St)) : Option (Except Ppa.Bs Ppa.St) := match x with
  | .error r' => some (.error r')
  | .ok (r', s') => Ppa.docF N g done r' s'
/-- behind a part of a document -/
theorem doc_next {g : Nat} {done : Bool} {o : Except Ppa.Bs Ppa.St} {x : Except Ppa.Bs (Ppa.Bs × Ppa.St)} {R R2 : Nat} (hW : EndR B b s x w) (h : nextD s.size g done x = some o) (hm : ∀ r' s', x = .ok (r', s') → Ppa.meas s' r' ≤ 800000 ∧ r'.length ≤ R2) (hR : R2 ≤ R) : ∃ st2 σ2, Re B b s st2 σ2 w ∧ DocX s.size o R g done st2 σ2 ∧ (σ2.1 = false → σ2.2.length ≤ R2) := by
  cases x with
  | error t =>
    have h : (some (.error t) : Option (Except Ppa.Bs Ppa.St)) = some o := h
    injection h with h
    subst h
    obtain ⟨s2, hW⟩ := hW
    exact ⟨s2, _, hW, docX_bad, fun e => by cases e⟩
  | ok q =>
    obtain ⟨t, s2⟩ := q
    have hW : Re B b s s2 (false, t) w := hW
    obtain ⟨h1, h2⟩ := hm t s2 rfl
    exact ⟨s2, _, hW, docX_good h h1 (Nat.le_trans h2 hR), fun _ => h2⟩
theorem re_put {r r' : Ppa.Bs} {x : Bool} (h : Re B b s st (x, r) w) (hs : r' <:+ r) (ht : Pch.textsL r' = true) {y : Int} (hy : y + r'.length = s.size) : Re B b s st (x, r') (w.setCell ⟨b, 1, none⟩ (.int .i64 y)) := by
  obtain ⟨z, h⟩ := h
  exact ⟨z, h.put hs ht hy⟩
end
section
variable {B b : Nat} {s : ByteArray} {st : Ppa.St} {σ : Sg} {w : World}
theorem xml_cut (s : ByteArray) : ((s.extract 0 5).toList == ([60, 63, 120, 109, 108] : List UInt8)) = Lib.hasPrefix s.data.toList xmlW := by
  have h := pre_eq s ⟨#[60, 63, 120, 109, 108]⟩ 0 5 s.data.toList rfl rfl
  rw [show (⟨#[60, 63, 120, 109, 108]⟩ : ByteArray).toList = [60, 63, 120, 109, 108] from by rw [ByteArray.toList_eq]] at h
  exact h
set_option maxRecDepth 100000 in
set_option maxHeartbeats 16000000 in
theorem rdocument_any {F : Nat} {o : Except Ppa.Bs Ppa.St} (h : Re B b s Ppa.st0 (false, s.data.toList) w) (he : Ppa.docM s.size F s.data.toList = some o) :
    Calls Tryz.prog 22 #[.pointer (some ⟨b, 0, none⟩)] w fun e w' => e = .returned (.tuple #[]) ∧ EndD B b s o w' ∧ Below B w w' := by
  have hs9 := h.small
  have htx := h.tx
  dsimp only at htx
  have hsl := size_len s
  have CA := Kept.mk (radd_any 1 [] [] (-1) h (by show (0 : Nat) ≤ _; omega))
  unfold ndV at CA
  rw [show ({ Ppa.st0 with nodes := Ppa.st0.nodes ++ [(1, [], [], -1)] } : Ppa.St) = Ppa.stR from rfl] at CA
  have B0 := Kept.mk (Below.refl B w)
  rw [Ppa.docM_eq] at he
  have hdo : ∃ (x : Except Ppa.Bs Ppa.Bs), (if Lib.hasPrefix s.data.toList xmlW = true ∧ blankH (s.data.toList.drop 5) = true then x = Ppa.declM (s.data.toList.drop 5) else x = .ok s.data.toList) ∧ DocX s.size o s.size F false Ppa.stR (exS x) := by
    split at he
    · rename_i hc
      refine ⟨_, by rw [if_pos hc], ?_⟩
      cases hd : Ppa.declM (s.data.toList.drop 5) with
      | error t => rw [hd] at he; injection he with he; subst he; exact docX_bad
      | ok t =>
        rw [hd] at he
        have hl := (declM_ok hd).1.length_le
        rw [List.length_drop] at hl
        exact docX_good he (by unfold Ppa.meas; show 1 + 0 + 4 * t.length ≤ _; omega) (by omega)
    · rename_i hc
      refine ⟨_, by rw [if_neg hc], ?_⟩
      exact docX_good he (by unfold Ppa.meas; show 1 + 0 + 4 * s.data.toList.length ≤ _; omega) (by omega)
  obtain ⟨x, hx, hX⟩ := hdo
  have HX0 := Kept.mk hX
  clear he hX h
  have hstart : ∃ (P : World → Prop), True := ⟨fun _ => True, trivial⟩
  clear hstart
  by_cases hc : Lib.hasPrefix s.data.toList xmlW = true ∧ blankH (s.data.toList.drop 5) = true
  · rw [if_pos hc] at hx
    subst hx
    obtain ⟨hp, hb⟩ := hc
    obtain ⟨y, t, hyt⟩ : ∃ y t, s.data.toList.drop 5 = y :: t := by
      cases hd : s.data.toList.drop 5 with
      | nil => rw [hd] at hb; cases hb
      | cons y t => exact ⟨y, t, rfl⟩
    have h6 : 5 < s.size := by
      have := congrArg List.length hyt
      rw [List.length_drop] at this
      simp at this
      omega
    have i5 : (5 : Int) < (s.size : Int) := by omega
    have hxc := xml_cut s
    rw [hp] at hxc
    have hxe : (s.extract 0 5).toList = [60, 63, 120, 109, 108] := by simpa using hxc
    have hbt : bt s 5 = (y.toNat : Int) := by
      rw [bt_getD]
      have : s.data.toList.getD 5 0 = (s.data.toList.drop 5).getD 0 0 := by rw [Lib.getD_dropU]
      rw [this, hyt]
      rfl
    have hgb := get_bt s
    have hyl : y.toNat < 128 := by rw [hyt] at hb; exact blankC_low hb
    have CB := Kept.mk (fun W => rblank_any y.toNat W)
    have hbk : blkN y.toNat = true := by
      have h := blk_lk false (y :: t)
      rw [lk_low y t hyl] at h
      rw [h, ← hyt, hb]
      rfl
    rw [hbk] at CB
    have hd5 : s.data.toList.drop 5 <:+ s.data.toList := List.drop_suffix _ _
    have ht5 : Pch.textsL (s.data.toList.drop 5) = true := by
      have hla := xml_app hp
      rw [hla] at htx
      exact Ppa.texts_lit xmlW _ (by decide) htx
    have CD := Kept.mk (fun (W : World) (H : Re B b s Ppa.stR (false, s.data.toList.drop 5) W) => rdecl_any H)
    generalize exS (Ppa.declM (s.data.toList.drop 5)) = σ0 at CD HX0
    have y0 : (0 : Int) ≤ (y.toNat : Int) := by omega
    have y1 : (y.toNat : Int) ≤ 127 := by omega
    have HPUT := Kept.mk (fun (W : World) (H : Re B b s Ppa.stR (false, s.data.toList) W) => re_put H hd5 ht5 (y := 5) (by rw [List.length_drop]; omega))
    generalize y.toNat = yy at *
    clear hp hb hyt hyl hbk hd5 ht5 htx hsl
    go_enter Tryz.func22, Tryz.ntmps22
    go_wp2_with (first | (go_at_call 47; refine (CA.out).mono ?_; rintro e w1 ⟨rfl, H1, hb1⟩; have c0 := H1.c0; have c1 := H1.c1; dsimp only at c1; have f1 := H1.unf 1; have P1 := Kept.mk H1; have B1 := Kept.mk (B0.out.trans hb1); clear H1 hb1 CA) | (go_at_call 48; refine (CB.out _).mono ?_; rintro e w15 ⟨rfl, rfl⟩) | (go_at_call 49; refine (CD.out _ (HPUT.out _ P1.out)).mono ?_; rintro e w3 ⟨rfl, H3, hb3⟩; have P3 := Kept.mk H3; have B3 := Kept.mk ((B1.out.setCell (p := ⟨b, 1, none⟩) P1.out.le _).trans hb3); clear H3 hb3 CD))
    go_loopg [2, 3, 4] (F + s.size) (fun g v2 _ _ wx => ∃ (st' : Ppa.St) (σ' : Sg) (done : Bool) (f : Nat), v2 = .bool done ∧ Kept (Re B b s st' σ' wx) ∧ Kept (Below B w wx) ∧ Kept (DocX s.size o s.size f done st' σ') ∧ (σ'.1 = false → f + σ'.2.length ≤ g))
    case atStart => exact ⟨Ppa.stR, _, false, F, rfl, P3, B3, HX0, fun _ => Nat.add_le_add_left P3.out.len F⟩
    case round =>
      obtain ⟨st', ⟨x, r'⟩, done, f, rfl, HP, BW, HX, hg⟩ := hrel
      clear B0 B1 P1 P3 B3 HX0
      have bd := HP.out.c2
      dsimp only at bd hg
      have hX := HX.out
      unfold DocX at hX
      cases x
      · rw [if_neg (by simp)] at hX
        obtain ⟨hF, hmm, hrR⟩ := hX
        dsimp only at hF hmm hrR
        have hg := hg rfl
        obtain ⟨f, rfl⟩ : ∃ f', f = f' + 1 := by
          cases f with
          | zero => exfalso; rw [Ppa.docF] at hF; cases hF
          | succ f => exact ⟨f, rfl⟩
        obtain ⟨gg, rfl⟩ : ∃ gg, gk = gg + 1 := ⟨gk - 1, by omega⟩
        have htx := HP.out.tx
        dsimp only at htx
        obtain ⟨k, hk⟩ : ∃ k, s.size - r'.length = k := ⟨_, rfl⟩
        have CL := Kept.mk (look_e HP.out)
        have CB := Kept.mk (fun W => rblank_any (lk (false, r')) W)
        rw [blk_lk] at CB
        have hm9 := hmm
        unfold Ppa.meas at hm9
        cases hbl : blankH r' with
        | true =>
          rw [hbl] at CB
          obtain ⟨y, t, rfl⟩ : ∃ y t, r' = y :: t := by
            cases r' with
            | nil => cases hbl
            | cons y t => exact ⟨y, t, rfl⟩
          have CS := Kept.mk (fun (W : World) (H : Re B b s st' (false, y :: t) W) => step_e H (by simp))
          dsimp only at CS
          rw [skip_low y t (blankC_low hbl)] at CS
          have HY : Kept (DocX s.size o s.size (f + 1) done st' (false, t)) := ⟨docX_good (by rw [← hF]; exact docF_same (blanksL_of_true hbl).symm) (by unfold Ppa.meas at hmm ⊢; simp at hmm; omega) (by simp at hrR; omega)⟩
          generalize lk (false, y :: t) = C at CL CB
          clear HX hF hbl htx
          go_wp2_with (first | (go_at_call 50; refine (CL.out).mono ?_; rintro e w2 ⟨rfl, H2, hb2⟩; have d1 := H2.c1; dsimp only at d1; rw [hk] at d1; have P2 := Kept.mk H2; have B2 := Kept.mk (BW.out.trans hb2); clear H2 hb2 CL) | (go_at_call 48; refine (CB.out _).mono ?_; rintro e w15 ⟨rfl, rfl⟩) | (go_at_call 51; refine (CS.out _ P2.out).mono ?_; rintro e w6 ⟨rfl, H6, hb6⟩; have P6 := Kept.mk H6; have B6 := Kept.mk (B2.out.trans hb6); clear H6 hb6 CS))
          go_roundg gg
          case measure => omega
          case rel => exact ⟨st', (false, t), done, f + 1, rfl, P6, B6, HY, fun _ => by simp at hg ⊢; omega⟩
        | false =>
          rw [hbl] at CB
          have hbs := blanksL_of_false hbl
          by_cases c0 : lk (false, r') = 0
          · have hnil : r' = [] := by
              by_cases hn : r' = []
              · exact hn
              · have := lk_pos hn htx; omega
            subst hnil
            rw [c0] at CL CB
            have hks : (k : Int) = (s.size : Int) := by simp at hk; omega
            rw [docF_nil hbs] at hF
            cases done
            · rw [if_neg (by simp)] at hF
              injection hF with hF
              subst hF
              clear HX htx hbs hbl c0
              go_wp2_with (first | (go_at_call 50; refine (CL.out).mono ?_; rintro e w2 ⟨rfl, H2, hb2⟩; have d1 := H2.c1; dsimp only at d1; rw [hk] at d1; have P2 := Kept.mk H2; have B2 := Kept.mk (BW.out.trans hb2); clear H2 hb2 CL) | (go_at_call 48; refine (CB.out _).mono ?_; rintro e w15 ⟨rfl, rfl⟩))
              have bx1 := beh_cell d1
              have bx0 := beh_cell P2.out.c0
              refine wp_region_beh (by kernel_rfl) (by kernel_rfl) ?_
              repeat
                (refine Qw_step (fun K hK => ?_)
                 go_simp
                 first
                   | (refine hK _ ?_; clear hK K)
                   | (apply Exists.intro
                      refine ⟨fun _ => ?_, hK _ ?_⟩
                      (fail)
                      clear hK K))
              refine Qw_nil ?_
              rintro w5 ⟨⟨_, hb5⟩, rfl⟩
              have P5 := Kept.mk (P2.out.below hb5)
              have B5 := Kept.mk (B2.out.trans (hb5.mono P2.out.hB))
              clear hb5 bx0 bx1
              go_wp2_with (first | (go_at_call 52; refine (no_e P5.out).mono ?_; rintro e w6 ⟨rfl, H6, hb6⟩; have P6 := Kept.mk H6; have B6 := Kept.mk (B5.out.trans hb6); clear H6 hb6))
              go_roundg gg
              case measure => omega
              case rel => exact ⟨st', (true, []), false, 0, rfl, P6, B6, ⟨docX_bad⟩, fun e => by cases e⟩
            · rw [if_pos rfl] at hF
              injection hF with hF
              subst hF
              clear HX htx hbs hbl c0
              go_wp2_with (first | (go_at_call 50; refine (CL.out).mono ?_; rintro e w2 ⟨rfl, H2, hb2⟩; have d1 := H2.c1; dsimp only at d1; rw [hk] at d1; have P2 := Kept.mk H2; have B2 := Kept.mk (BW.out.trans hb2); clear H2 hb2 CL) | (go_at_call 48; refine (CB.out _).mono ?_; rintro e w15 ⟨rfl, rfl⟩))
              have bx1 := beh_cell d1
              have bx0 := beh_cell P2.out.c0
              refine wp_region_beh (by kernel_rfl) (by kernel_rfl) ?_
              repeat
                (refine Qw_step (fun K hK => ?_)
                 go_simp
                 first
                   | (refine hK _ ?_; clear hK K)
                   | (apply Exists.intro
                      refine ⟨fun _ => ?_, hK _ ?_⟩
                      (fail)
                      clear hK K))
              refine Qw_nil ?_
              rintro w5 ⟨⟨_, hb5⟩, rfl⟩
              have P5 := Kept.mk (P2.out.below hb5)
              have B5 := Kept.mk (B2.out.trans (hb5.mono P2.out.hB))
              clear hb5 bx0 bx1
              go_wp2
              refine bodyPost_ret (results_none rfl _ _ _) rfl ?_
              exact ⟨rfl, endD_ok P5.out, B5.out⟩
          · by_cases c60 : lk (false, r') = 60
            · obtain ⟨u, rfl⟩ := lk_cons 60 (by decide) (by decide) 60 rfl c60
              rw [c60] at CL CB
              have CS := Kept.mk (fun (W : World) (H : Re B b s st' (false, 60 :: u) W) => step_e H (by simp))
              dsimp only at CS
              rw [skip_low 60 u (by decide)] at CS
              simp only [List.length_cons] at hg hrR hm9
              have htu := Ppa.texts_low (by decide) htx
              by_cases h63 : u.head? = some 63
              · obtain ⟨v, rfl⟩ := head_cons h63
                rw [docF_pi hbs] at hF
                have C1 := Kept.mk (fun W => is_ey (B := B) (b := b) (s := s) (st := st') (t := v) 63 63 rfl (by decide) (by decide) W)
                have hmv : Ppa.meas st' v ≤ 800000 := by unfold Ppa.meas; simp at hm9; omega
                have CP := Kept.mk (fun (W : World) (H : Re B b s st' (false, v) W) => rpi_any 0 H hmv)
                have HN := Kept.mk (fun (W : World) (hW : EndR B b s (Ppa.instrM 0 v st') W) => doc_next (R := s.size) (R2 := v.length) hW hF (fun r1 s1 e => ⟨Nat.le_trans (Ppa.instrM_ok e).2.1 hmv, (Ppa.instrM_ok e).1.length_le⟩) (by simp at hrR; omega))
                simp only [List.length_cons] at hg
                clear HX hF htx htu hbs hbl c0 c60 h63 hmm hmv
                go_wp2_with (first | (go_at_call 50; refine (CL.out).mono ?_; rintro e w2 ⟨rfl, H2, hb2⟩; have d1 := H2.c1; dsimp only at d1; rw [hk] at d1; have P2 := Kept.mk H2; have B2 := Kept.mk (BW.out.trans hb2); clear H2 hb2 CL) | (go_at_call 48; refine (CB.out _).mono ?_; rintro e w15 ⟨rfl, rfl⟩))
                have bx1 := beh_cell d1
                have bx0 := beh_cell P2.out.c0
                refine wp_region_beh (by kernel_rfl) (by kernel_rfl) ?_
                repeat
                  (refine Qw_step (fun K hK => ?_)
                   go_simp
                   first
                     | (refine hK _ ?_; clear hK K)
                     | (apply Exists.intro
                        refine ⟨fun _ => ?_, hK _ ?_⟩
                        (fail)
                        clear hK K))
                refine Qw_nil ?_
                rintro w5 ⟨⟨_, hb5⟩, rfl⟩
                have P5 := Kept.mk (P2.out.below hb5)
                have B5 := Kept.mk (B2.out.trans (hb5.mono P2.out.hB))
                clear hb5 bx0 bx1
                go_wp2_with (first | (go_at_call 51; refine (CS.out _ P5.out).mono ?_; rintro e w6 ⟨rfl, H6, hb6⟩; have P6 := Kept.mk H6; have B6 := Kept.mk (B5.out.trans hb6); clear H6 hb6 CS) | (go_at_call 53; refine (C1.out _ P6.out).mono ?_; rintro e w7 ⟨rfl, H7, hb7⟩; have P7 := Kept.mk H7; have B7 := Kept.mk (B6.out.trans hb7); clear H7 hb7 C1) | (go_at_call 54; refine (CP.out _ P7.out).mono ?_; rintro e w10 ⟨rfl, H10, hb10⟩; have P10 := Kept.mk H10; have B10 := Kept.mk (B7.out.trans hb10); clear H10 hb10 CP))
                obtain ⟨st2, σ2, h2a, h2b, h2c⟩ := HN.out _ P10.out
                have h2k := Kept.mk h2a
                have h2l := Kept.mk h2b
                clear h2a h2b
                go_roundg gg
                case measure => omega
                case rel => exact ⟨st2, σ2, done, _, rfl, h2k, B10, h2l, fun e => by have := h2c e; omega⟩
              · have C1 := Kept.mk (fun W => is_en (B := B) (b := b) (s := s) (st := st') 63 63 rfl (by decide) (by decide) h63 W)
                by_cases h33 : u.head? = some 33
                · obtain ⟨v, rfl⟩ := head_cons h33
                  rw [docF_bang hbs] at hF
                  have C2 := Kept.mk (fun W => is_ey (B := B) (b := b) (s := s) (st := st') (t := v) 33 33 rfl (by decide) (by decide) W)
                  have C3 := Kept.mk (fun (W : World) (H : Re B b s st' (false, v) W) => must_e ⟨#[45]⟩ (by decide) (by decide) H)
                  rw [show (⟨#[45]⟩ : ByteArray).data.toList = [45] from rfl, mustB_ex] at C3
                  simp only [List.length_cons] at hg hrR hm9
                  cases hmu : Ppa.mustL [45] v with
                  | error r1 =>
                    rw [hmu] at hF C3
                    injection hF with hF
                    subst hF
                    clear HX htx htu hbs hbl c0 c60 h63 h33 hmm hmu
                    go_wp2_with (first | (go_at_call 50; refine (CL.out).mono ?_; rintro e w2 ⟨rfl, H2, hb2⟩; have d1 := H2.c1; dsimp only at d1; rw [hk] at d1; have P2 := Kept.mk H2; have B2 := Kept.mk (BW.out.trans hb2); clear H2 hb2 CL) | (go_at_call 48; refine (CB.out _).mono ?_; rintro e w15 ⟨rfl, rfl⟩))
                    have bx1 := beh_cell d1
                    have bx0 := beh_cell P2.out.c0
                    refine wp_region_beh (by kernel_rfl) (by kernel_rfl) ?_
                    repeat
                      (refine Qw_step (fun K hK => ?_)
                       go_simp
                       first
                         | (refine hK _ ?_; clear hK K)
                         | (apply Exists.intro
                            refine ⟨fun _ => ?_, hK _ ?_⟩
                            (fail)
                            clear hK K))
                    refine Qw_nil ?_
                    rintro w5 ⟨⟨_, hb5⟩, rfl⟩
                    have P5 := Kept.mk (P2.out.below hb5)
                    have B5 := Kept.mk (B2.out.trans (hb5.mono P2.out.hB))
                    clear hb5 bx0 bx1
                    go_wp2_with (first | (go_at_call 51; refine (CS.out _ P5.out).mono ?_; rintro e w6 ⟨rfl, H6, hb6⟩; have P6 := Kept.mk H6; have B6 := Kept.mk (B5.out.trans hb6); clear H6 hb6 CS) | (go_at_call 53; refine (C1.out _ P6.out).mono ?_; rintro e w7 ⟨rfl, H7, hb7⟩; have P7 := Kept.mk H7; have B7 := Kept.mk (B6.out.trans hb7); clear H7 hb7 C1) | (go_at_call 53; refine (C2.out _ P7.out).mono ?_; rintro e w8 ⟨rfl, H8, hb8⟩; have P8 := Kept.mk H8; have B8 := Kept.mk (B7.out.trans hb8); clear H8 hb8 C2) | (go_at_call 55; refine (C3.out _ P8.out).mono ?_; rintro e w9 ⟨rfl, H9, hb9⟩; have c9 := H9.c2; have P9 := Kept.mk H9; have B9 := Kept.mk (B8.out.trans hb9); clear H9 hb9 C3))
                    go_roundg gg
                    case measure => omega
                    case rel => exact ⟨st', (true, r1), done, 0, rfl, P9, B9, ⟨docX_bad⟩, fun e => by cases e⟩
                  | ok r1 =>
                    rw [hmu] at hF C3
                    dsimp only at hF
                    have hl1 := (Ppa.mustL_suf hmu).length_le
                    have hmv : Ppa.meas st' r1 ≤ 800000 := by unfold Ppa.meas; omega
                    have CP := Kept.mk (fun (W : World) (H : Re B b s st' (false, r1) W) => rcomment_any 0 H hmv)
                    have HN := Kept.mk (fun (W : World) (hW : EndR B b s (Ppa.commM 0 r1 st') W) => doc_next (R := s.size) (R2 := r1.length) hW hF (fun r2 s1 e => ⟨Nat.le_trans (Ppa.commM_ok e).2.1 hmv, (Ppa.commM_ok e).1.length_le⟩) (by omega))
                    clear HX hF htx htu hbs hbl c0 c60 h63 h33 hmm hmu hmv
                    go_wp2_with (first | (go_at_call 50; refine (CL.out).mono ?_; rintro e w2 ⟨rfl, H2, hb2⟩; have d1 := H2.c1; dsimp only at d1; rw [hk] at d1; have P2 := Kept.mk H2; have B2 := Kept.mk (BW.out.trans hb2); clear H2 hb2 CL) | (go_at_call 48; refine (CB.out _).mono ?_; rintro e w15 ⟨rfl, rfl⟩))
                    have bx1 := beh_cell d1
                    have bx0 := beh_cell P2.out.c0
                    refine wp_region_beh (by kernel_rfl) (by kernel_rfl) ?_
                    repeat
                      (refine Qw_step (fun K hK => ?_)
                       go_simp
                       first
                         | (refine hK _ ?_; clear hK K)
                         | (apply Exists.intro
                            refine ⟨fun _ => ?_, hK _ ?_⟩
                            (fail)
                            clear hK K))
                    refine Qw_nil ?_
                    rintro w5 ⟨⟨_, hb5⟩, rfl⟩
                    have P5 := Kept.mk (P2.out.below hb5)
                    have B5 := Kept.mk (B2.out.trans (hb5.mono P2.out.hB))
                    clear hb5 bx0 bx1
                    go_wp2_with (first | (go_at_call 51; refine (CS.out _ P5.out).mono ?_; rintro e w6 ⟨rfl, H6, hb6⟩; have P6 := Kept.mk H6; have B6 := Kept.mk (B5.out.trans hb6); clear H6 hb6 CS) | (go_at_call 53; refine (C1.out _ P6.out).mono ?_; rintro e w7 ⟨rfl, H7, hb7⟩; have P7 := Kept.mk H7; have B7 := Kept.mk (B6.out.trans hb7); clear H7 hb7 C1) | (go_at_call 53; refine (C2.out _ P7.out).mono ?_; rintro e w8 ⟨rfl, H8, hb8⟩; have P8 := Kept.mk H8; have B8 := Kept.mk (B7.out.trans hb8); clear H8 hb8 C2) | (go_at_call 55; refine (C3.out _ P8.out).mono ?_; rintro e w9 ⟨rfl, H9, hb9⟩; have c9 := H9.c2; have P9 := Kept.mk H9; have B9 := Kept.mk (B8.out.trans hb9); clear H9 hb9 C3) | (go_at_call 56; refine (CP.out _ P9.out).mono ?_; rintro e w10 ⟨rfl, H10, hb10⟩; have P10 := Kept.mk H10; have B10 := Kept.mk (B9.out.trans hb10); clear H10 hb10 CP))
                    obtain ⟨st2, σ2, h2a, h2b, h2c⟩ := HN.out _ P10.out
                    have h2k := Kept.mk h2a
                    have h2l := Kept.mk h2b
                    clear h2a h2b
                    go_roundg gg
                    case measure => omega
                    case rel => exact ⟨st2, σ2, done, _, rfl, h2k, B10, h2l, fun e => by have := h2c e; omega⟩
                · have C2 := Kept.mk (fun W => is_en (B := B) (b := b) (s := s) (st := st') 33 33 rfl (by decide) (by decide) h33 W)
                  rw [docF_elem hbs h63 h33] at hF
                  cases done
                  · rw [if_neg (by simp)] at hF
                    cases hel : Ppa.elemF s.size f 0 1 u st' with
                    | none => rw [hel] at hF; cases hF
                    | some oe =>
                      rw [hel] at hF
                      have hF2 : nextD s.size f true oe = some o := by
                        cases oe with
                        | error t => exact hF
                        | ok q => exact hF
                      cases f with
                      | zero => unfold Ppa.elemF at hel; cases hel
                      | succ f =>
                        have hmv : Ppa.meas st' u ≤ 800000 := by unfold Ppa.meas; omega
                        have hfr : (k : Int) = (s.size : Int) - u.length - 1 := by simp at hk; omega
                        have CE := Kept.mk (fun (W : World) (H : Re B b s st' (false, u) W) => relement_any (both_r B b s f).1 0 (k : Int) 1 H hmv (by omega) hfr hel)
                        have HN := Kept.mk (fun (W : World) (hW : EndR B b s oe W) => doc_next (R := s.size) (R2 := u.length) hW hF2 (fun r2 s1 e => by subst e; have hk := (Ppa.kc_all s.size (f + 1)).elem 0 1 u st' r2 s1 hel; exact ⟨Nat.le_trans hk.2.1 hmv, hk.1.length_le⟩) (by omega))
                        clear HX hF hF2 htx htu hbs hbl c0 c60 h63 h33 hmm hmv hfr hel
                        go_wp2_with (first | (go_at_call 50; refine (CL.out).mono ?_; rintro e w2 ⟨rfl, H2, hb2⟩; have d1 := H2.c1; dsimp only at d1; rw [hk] at d1; have P2 := Kept.mk H2; have B2 := Kept.mk (BW.out.trans hb2); clear H2 hb2 CL) | (go_at_call 48; refine (CB.out _).mono ?_; rintro e w15 ⟨rfl, rfl⟩))
                        have bx1 := beh_cell d1
                        have bx0 := beh_cell P2.out.c0
                        refine wp_region_beh (by kernel_rfl) (by kernel_rfl) ?_
                        repeat
                          (refine Qw_step (fun K hK => ?_)
                           go_simp
                           first
                             | (refine hK _ ?_; clear hK K)
                             | (apply Exists.intro
                                refine ⟨fun _ => ?_, hK _ ?_⟩
                                (fail)
                                clear hK K))
                        refine Qw_nil ?_
                        rintro w5 ⟨⟨_, hb5⟩, rfl⟩
                        have P5 := Kept.mk (P2.out.below hb5)
                        have B5 := Kept.mk (B2.out.trans (hb5.mono P2.out.hB))
                        clear hb5 bx0 bx1
                        go_wp2_with (first | (go_at_call 51; refine (CS.out _ P5.out).mono ?_; rintro e w6 ⟨rfl, H6, hb6⟩; have P6 := Kept.mk H6; have B6 := Kept.mk (B5.out.trans hb6); clear H6 hb6 CS) | (go_at_call 53; refine (C1.out _ P6.out).mono ?_; rintro e w7 ⟨rfl, H7, hb7⟩; have P7 := Kept.mk H7; have B7 := Kept.mk (B6.out.trans hb7); clear H7 hb7 C1) | (go_at_call 53; refine (C2.out _ P7.out).mono ?_; rintro e w8 ⟨rfl, H8, hb8⟩; have P8 := Kept.mk H8; have B8 := Kept.mk (B7.out.trans hb8); clear H8 hb8 C2) | (go_at_call 57; refine (CE.out _ P8.out).mono ?_; rintro e w10 ⟨rfl, H10, hb10⟩; have P10 := Kept.mk H10; have B10 := Kept.mk (B8.out.trans hb10); clear H10 hb10 CE))
                        obtain ⟨st2, σ2, h2a, h2b, h2c⟩ := HN.out _ P10.out
                        have h2k := Kept.mk h2a
                        have h2l := Kept.mk h2b
                        clear h2a h2b
                        go_roundg gg
                        case measure => omega
                        case rel => exact ⟨st2, σ2, true, _, rfl, h2k, B10, h2l, fun e => by have := h2c e; omega⟩
                  · rw [if_pos rfl] at hF
                    injection hF with hF
                    subst hF
                    clear HX htx htu hbs hbl c0 c60 h63 h33 hmm
                    go_wp2_with (first | (go_at_call 50; refine (CL.out).mono ?_; rintro e w2 ⟨rfl, H2, hb2⟩; have d1 := H2.c1; dsimp only at d1; rw [hk] at d1; have P2 := Kept.mk H2; have B2 := Kept.mk (BW.out.trans hb2); clear H2 hb2 CL) | (go_at_call 48; refine (CB.out _).mono ?_; rintro e w15 ⟨rfl, rfl⟩))
                    have bx1 := beh_cell d1
                    have bx0 := beh_cell P2.out.c0
                    refine wp_region_beh (by kernel_rfl) (by kernel_rfl) ?_
                    repeat
                      (refine Qw_step (fun K hK => ?_)
                       go_simp
                       first
                         | (refine hK _ ?_; clear hK K)
                         | (apply Exists.intro
                            refine ⟨fun _ => ?_, hK _ ?_⟩
                            (fail)
                            clear hK K))
                    refine Qw_nil ?_
                    rintro w5 ⟨⟨_, hb5⟩, rfl⟩
                    have P5 := Kept.mk (P2.out.below hb5)
                    have B5 := Kept.mk (B2.out.trans (hb5.mono P2.out.hB))
                    clear hb5 bx0 bx1
                    go_wp2_with (first | (go_at_call 51; refine (CS.out _ P5.out).mono ?_; rintro e w6 ⟨rfl, H6, hb6⟩; have P6 := Kept.mk H6; have B6 := Kept.mk (B5.out.trans hb6); clear H6 hb6 CS) | (go_at_call 53; refine (C1.out _ P6.out).mono ?_; rintro e w7 ⟨rfl, H7, hb7⟩; have P7 := Kept.mk H7; have B7 := Kept.mk (B6.out.trans hb7); clear H7 hb7 C1) | (go_at_call 53; refine (C2.out _ P7.out).mono ?_; rintro e w8 ⟨rfl, H8, hb8⟩; have P8 := Kept.mk H8; have B8 := Kept.mk (B7.out.trans hb8); clear H8 hb8 C2) | (go_at_call 52; refine (no_e P8.out).mono ?_; rintro e w9 ⟨rfl, H9, hb9⟩; have P9 := Kept.mk H9; have B9 := Kept.mk (B8.out.trans hb9); clear H9 hb9))
                    go_roundg gg
                    case measure => omega
                    case rel => exact ⟨st', (true, u), true, 0, rfl, P9, B9, ⟨docX_bad⟩, fun e => by cases e⟩
            · have k60 := lk_head 60 (by decide) (by decide) 60 rfl c60
              have hne : r' ≠ [] := by rintro rfl; exact c0 (lk_nil _)
              rw [docF_bad (by rw [hbs]; exact hne) (by rw [hbs]; exact k60), hbs] at hF
              injection hF with hF
              subst hF
              generalize lk (false, r') = C at CL CB c0 c60
              have m0 : ¬ (C : Int) = 0 := by omega
              have m1 : ¬ (C : Int) = 60 := by omega
              have q0 : ((C : Int) == 0) = false := by simpa using m0
              have q1 : ((C : Int) != 60) = true := by simpa using m1
              clear HX htx hbs hbl c0 c60 k60 hne hmm
              go_wp2_with (first | (go_at_call 50; refine (CL.out).mono ?_; rintro e w2 ⟨rfl, H2, hb2⟩; have d1 := H2.c1; dsimp only at d1; rw [hk] at d1; have P2 := Kept.mk H2; have B2 := Kept.mk (BW.out.trans hb2); clear H2 hb2 CL) | (go_at_call 48; refine (CB.out _).mono ?_; rintro e w15 ⟨rfl, rfl⟩))
              have bx1 := beh_cell d1
              have bx0 := beh_cell P2.out.c0
              refine wp_region_beh (by kernel_rfl) (by kernel_rfl) ?_
              repeat
                (refine Qw_step (fun K hK => ?_)
                 go_simp
                 first
                   | (refine hK _ ?_; clear hK K)
                   | (apply Exists.intro
                      refine ⟨fun _ => ?_, hK _ ?_⟩
                      (fail)
                      clear hK K))
              refine Qw_nil ?_
              rintro w5 ⟨⟨_, hb5⟩, rfl⟩
              have P5 := Kept.mk (P2.out.below hb5)
              have B5 := Kept.mk (B2.out.trans (hb5.mono P2.out.hB))
              clear hb5 bx0 bx1
              go_wp2_with (first | (go_at_call 52; refine (no_e P5.out).mono ?_; rintro e w6 ⟨rfl, H6, hb6⟩; have P6 := Kept.mk H6; have B6 := Kept.mk (B5.out.trans hb6); clear H6 hb6))
              go_roundg gg
              case measure => omega
              case rel => exact ⟨st', (true, r'), done, 0, rfl, P6, B6, ⟨docX_bad⟩, fun e => by cases e⟩
      · have hX : o = .error r' := by rw [if_pos rfl] at hX; exact hX
        subst hX
        clear HX
        go_wp2
        go_end0
        exact ⟨rfl, endD_no HP.out, BW.out⟩
  · rw [if_neg hc] at hx
    subst hx
    have hxc := xml_cut s
    have HS := Kept.mk hc
    by_cases h6 : 5 < s.size
    · have i5 : (5 : Int) < (s.size : Int) := by omega
      cases hp : Lib.hasPrefix s.data.toList xmlW with
      | false =>
        rw [hp] at hxc
        have hxe : ¬ (s.extract 0 5).toList = [60, 63, 120, 109, 108] := by simpa using hxc
        clear hc hp htx hsl HS
        go_enter Tryz.func22, Tryz.ntmps22
        go_wp2_with (first | (go_at_call 47; refine (CA.out).mono ?_; rintro e w1 ⟨rfl, H1, hb1⟩; have c0 := H1.c0; have c1 := H1.c1; dsimp only at c1; have f1 := H1.unf 1; have P1 := Kept.mk H1; have B1 := Kept.mk (B0.out.trans hb1); clear H1 hb1 CA))
        go_loopg [2, 3, 4] (F + s.size) (fun g v2 _ _ wx => ∃ (st' : Ppa.St) (σ' : Sg) (done : Bool) (f : Nat), v2 = .bool done ∧ Kept (Re B b s st' σ' wx) ∧ Kept (Below B w wx) ∧ Kept (DocX s.size o s.size f done st' σ') ∧ (σ'.1 = false → f + σ'.2.length ≤ g))
        case atStart => exact ⟨Ppa.stR, _, false, F, rfl, P1, B1, HX0, fun _ => Nat.add_le_add_left P1.out.len F⟩
        case round =>
          obtain ⟨st', ⟨x, r'⟩, done, f, rfl, HP, BW, HX, hg⟩ := hrel
          clear B0 B1 P1 HX0
          have bd := HP.out.c2
          dsimp only at bd hg
          have hX := HX.out
          unfold DocX at hX
          cases x
          · rw [if_neg (by simp)] at hX
            obtain ⟨hF, hmm, hrR⟩ := hX
            dsimp only at hF hmm hrR
            have hg := hg rfl
            obtain ⟨f, rfl⟩ : ∃ f', f = f' + 1 := by
              cases f with
              | zero => exfalso; rw [Ppa.docF] at hF; cases hF
              | succ f => exact ⟨f, rfl⟩
            obtain ⟨gg, rfl⟩ : ∃ gg, gk = gg + 1 := ⟨gk - 1, by omega⟩
            have htx := HP.out.tx
            dsimp only at htx
            obtain ⟨k, hk⟩ : ∃ k, s.size - r'.length = k := ⟨_, rfl⟩
            have CL := Kept.mk (look_e HP.out)
            have CB := Kept.mk (fun W => rblank_any (lk (false, r')) W)
            rw [blk_lk] at CB
            have hm9 := hmm
            unfold Ppa.meas at hm9
            cases hbl : blankH r' with
            | true =>
              rw [hbl] at CB
              obtain ⟨y, t, rfl⟩ : ∃ y t, r' = y :: t := by
                cases r' with
                | nil => cases hbl
                | cons y t => exact ⟨y, t, rfl⟩
              have CS := Kept.mk (fun (W : World) (H : Re B b s st' (false, y :: t) W) => step_e H (by simp))
              dsimp only at CS
              rw [skip_low y t (blankC_low hbl)] at CS
              have HY : Kept (DocX s.size o s.size (f + 1) done st' (false, t)) := ⟨docX_good (by rw [← hF]; exact docF_same (blanksL_of_true hbl).symm) (by unfold Ppa.meas at hmm ⊢; simp at hmm; omega) (by simp at hrR; omega)⟩
              generalize lk (false, y :: t) = C at CL CB
              clear HX hF hbl htx
              go_wp2_with (first | (go_at_call 50; refine (CL.out).mono ?_; rintro e w2 ⟨rfl, H2, hb2⟩; have d1 := H2.c1; dsimp only at d1; rw [hk] at d1; have P2 := Kept.mk H2; have B2 := Kept.mk (BW.out.trans hb2); clear H2 hb2 CL) | (go_at_call 48; refine (CB.out _).mono ?_; rintro e w15 ⟨rfl, rfl⟩) | (go_at_call 51; refine (CS.out _ P2.out).mono ?_; rintro e w6 ⟨rfl, H6, hb6⟩; have P6 := Kept.mk H6; have B6 := Kept.mk (B2.out.trans hb6); clear H6 hb6 CS))
              go_roundg gg
              case measure => omega
              case rel => exact ⟨st', (false, t), done, f + 1, rfl, P6, B6, HY, fun _ => by simp at hg ⊢; omega⟩
            | false =>
              rw [hbl] at CB
              have hbs := blanksL_of_false hbl
              by_cases c0 : lk (false, r') = 0
              · have hnil : r' = [] := by
                  by_cases hn : r' = []
                  · exact hn
                  · have := lk_pos hn htx; omega
                subst hnil
                rw [c0] at CL CB
                have hks : (k : Int) = (s.size : Int) := by simp at hk; omega
                rw [docF_nil hbs] at hF
                cases done
                · rw [if_neg (by simp)] at hF
                  injection hF with hF
                  subst hF
                  clear HX htx hbs hbl c0
                  go_wp2_with (first | (go_at_call 50; refine (CL.out).mono ?_; rintro e w2 ⟨rfl, H2, hb2⟩; have d1 := H2.c1; dsimp only at d1; rw [hk] at d1; have P2 := Kept.mk H2; have B2 := Kept.mk (BW.out.trans hb2); clear H2 hb2 CL) | (go_at_call 48; refine (CB.out _).mono ?_; rintro e w15 ⟨rfl, rfl⟩))
                  have bx1 := beh_cell d1
                  have bx0 := beh_cell P2.out.c0
                  refine wp_region_beh (by kernel_rfl) (by kernel_rfl) ?_
                  repeat
                    (refine Qw_step (fun K hK => ?_)
                     go_simp
                     first
                       | (refine hK _ ?_; clear hK K)
                       | (apply Exists.intro
                          refine ⟨fun _ => ?_, hK _ ?_⟩
                          (fail)
                          clear hK K))
                  refine Qw_nil ?_
                  rintro w5 ⟨⟨_, hb5⟩, rfl⟩
                  have P5 := Kept.mk (P2.out.below hb5)
                  have B5 := Kept.mk (B2.out.trans (hb5.mono P2.out.hB))
                  clear hb5 bx0 bx1
                  go_wp2_with (first | (go_at_call 52; refine (no_e P5.out).mono ?_; rintro e w6 ⟨rfl, H6, hb6⟩; have P6 := Kept.mk H6; have B6 := Kept.mk (B5.out.trans hb6); clear H6 hb6))
                  go_roundg gg
                  case measure => omega
                  case rel => exact ⟨st', (true, []), false, 0, rfl, P6, B6, ⟨docX_bad⟩, fun e => by cases e⟩
                · rw [if_pos rfl] at hF
                  injection hF with hF
                  subst hF
                  clear HX htx hbs hbl c0
                  go_wp2_with (first | (go_at_call 50; refine (CL.out).mono ?_; rintro e w2 ⟨rfl, H2, hb2⟩; have d1 := H2.c1; dsimp only at d1; rw [hk] at d1; have P2 := Kept.mk H2; have B2 := Kept.mk (BW.out.trans hb2); clear H2 hb2 CL) | (go_at_call 48; refine (CB.out _).mono ?_; rintro e w15 ⟨rfl, rfl⟩))
                  have bx1 := beh_cell d1
                  have bx0 := beh_cell P2.out.c0
                  refine wp_region_beh (by kernel_rfl) (by kernel_rfl) ?_
                  repeat
                    (refine Qw_step (fun K hK => ?_)
                     go_simp
                     first
                       | (refine hK _ ?_; clear hK K)
                       | (apply Exists.intro
                          refine ⟨fun _ => ?_, hK _ ?_⟩
                          (fail)
                          clear hK K))
                  refine Qw_nil ?_
                  rintro w5 ⟨⟨_, hb5⟩, rfl⟩
                  have P5 := Kept.mk (P2.out.below hb5)
                  have B5 := Kept.mk (B2.out.trans (hb5.mono P2.out.hB))
                  clear hb5 bx0 bx1
                  go_wp2
                  refine bodyPost_ret (results_none rfl _ _ _) rfl ?_
                  exact ⟨rfl, endD_ok P5.out, B5.out⟩
              · by_cases c60 : lk (false, r') = 60
                · obtain ⟨u, rfl⟩ := lk_cons 60 (by decide) (by decide) 60 rfl c60
                  rw [c60] at CL CB
                  have CS := Kept.mk (fun (W : World) (H : Re B b s st' (false, 60 :: u) W) => step_e H (by simp))
                  dsimp only at CS
                  rw [skip_low 60 u (by decide)] at CS
                  simp only [List.length_cons] at hg hrR hm9
                  have htu := Ppa.texts_low (by decide) htx
                  by_cases h63 : u.head? = some 63
                  · obtain ⟨v, rfl⟩ := head_cons h63
                    rw [docF_pi hbs] at hF
                    have C1 := Kept.mk (fun W => is_ey (B := B) (b := b) (s := s) (st := st') (t := v) 63 63 rfl (by decide) (by decide) W)
                    have hmv : Ppa.meas st' v ≤ 800000 := by unfold Ppa.meas; simp at hm9; omega
                    have CP := Kept.mk (fun (W : World) (H : Re B b s st' (false, v) W) => rpi_any 0 H hmv)
                    have HN := Kept.mk (fun (W : World) (hW : EndR B b s (Ppa.instrM 0 v st') W) => doc_next (R := s.size) (R2 := v.length) hW hF (fun r1 s1 e => ⟨Nat.le_trans (Ppa.instrM_ok e).2.1 hmv, (Ppa.instrM_ok e).1.length_le⟩) (by simp at hrR; omega))
                    simp only [List.length_cons] at hg
                    clear HX hF htx htu hbs hbl c0 c60 h63 hmm hmv
                    go_wp2_with (first | (go_at_call 50; refine (CL.out).mono ?_; rintro e w2 ⟨rfl, H2, hb2⟩; have d1 := H2.c1; dsimp only at d1; rw [hk] at d1; have P2 := Kept.mk H2; have B2 := Kept.mk (BW.out.trans hb2); clear H2 hb2 CL) | (go_at_call 48; refine (CB.out _).mono ?_; rintro e w15 ⟨rfl, rfl⟩))
                    have bx1 := beh_cell d1
                    have bx0 := beh_cell P2.out.c0
                    refine wp_region_beh (by kernel_rfl) (by kernel_rfl) ?_
                    repeat
                      (refine Qw_step (fun K hK => ?_)
                       go_simp
                       first
                         | (refine hK _ ?_; clear hK K)
                         | (apply Exists.intro
                            refine ⟨fun _ => ?_, hK _ ?_⟩
                            (fail)
                            clear hK K))
                    refine Qw_nil ?_
                    rintro w5 ⟨⟨_, hb5⟩, rfl⟩
                    have P5 := Kept.mk (P2.out.below hb5)
                    have B5 := Kept.mk (B2.out.trans (hb5.mono P2.out.hB))
                    clear hb5 bx0 bx1
                    go_wp2_with (first | (go_at_call 51; refine (CS.out _ P5.out).mono ?_; rintro e w6 ⟨rfl, H6, hb6⟩; have P6 := Kept.mk H6; have B6 := Kept.mk (B5.out.trans hb6); clear H6 hb6 CS) | (go_at_call 53; refine (C1.out _ P6.out).mono ?_; rintro e w7 ⟨rfl, H7, hb7⟩; have P7 := Kept.mk H7; have B7 := Kept.mk (B6.out.trans hb7); clear H7 hb7 C1) | (go_at_call 54; refine (CP.out _ P7.out).mono ?_; rintro e w10 ⟨rfl, H10, hb10⟩; have P10 := Kept.mk H10; have B10 := Kept.mk (B7.out.trans hb10); clear H10 hb10 CP))
                    obtain ⟨st2, σ2, h2a, h2b, h2c⟩ := HN.out _ P10.out
                    have h2k := Kept.mk h2a
                    have h2l := Kept.mk h2b
                    clear h2a h2b
                    go_roundg gg
                    case measure => omega
                    case rel => exact ⟨st2, σ2, done, _, rfl, h2k, B10, h2l, fun e => by have := h2c e; omega⟩
                  · have C1 := Kept.mk (fun W => is_en (B := B) (b := b) (s := s) (st := st') 63 63 rfl (by decide) (by decide) h63 W)
                    by_cases h33 : u.head? = some 33
                    · obtain ⟨v, rfl⟩ := head_cons h33
                      rw [docF_bang hbs] at hF
                      have C2 := Kept.mk (fun W => is_ey (B := B) (b := b) (s := s) (st := st') (t := v) 33 33 rfl (by decide) (by decide) W)
                      have C3 := Kept.mk (fun (W : World) (H : Re B b s st' (false, v) W) => must_e ⟨#[45]⟩ (by decide) (by decide) H)
                      rw [show (⟨#[45]⟩ : ByteArray).data.toList = [45] from rfl, mustB_ex] at C3
                      simp only [List.length_cons] at hg hrR hm9
                      cases hmu : Ppa.mustL [45] v with
                      | error r1 =>
                        rw [hmu] at hF C3
                        injection hF with hF
                        subst hF
                        clear HX htx htu hbs hbl c0 c60 h63 h33 hmm hmu
                        go_wp2_with (first | (go_at_call 50; refine (CL.out).mono ?_; rintro e w2 ⟨rfl, H2, hb2⟩; have d1 := H2.c1; dsimp only at d1; rw [hk] at d1; have P2 := Kept.mk H2; have B2 := Kept.mk (BW.out.trans hb2); clear H2 hb2 CL) | (go_at_call 48; refine (CB.out _).mono ?_; rintro e w15 ⟨rfl, rfl⟩))
                        have bx1 := beh_cell d1
                        have bx0 := beh_cell P2.out.c0
                        refine wp_region_beh (by kernel_rfl) (by kernel_rfl) ?_
                        repeat
                          (refine Qw_step (fun K hK => ?_)
                           go_simp
                           first
                             | (refine hK _ ?_; clear hK K)
                             | (apply Exists.intro
                                refine ⟨fun _ => ?_, hK _ ?_⟩
                                (fail)
                                clear hK K))
                        refine Qw_nil ?_
                        rintro w5 ⟨⟨_, hb5⟩, rfl⟩
                        have P5 := Kept.mk (P2.out.below hb5)
                        have B5 := Kept.mk (B2.out.trans (hb5.mono P2.out.hB))
                        clear hb5 bx0 bx1
                        go_wp2_with (first | (go_at_call 51; refine (CS.out _ P5.out).mono ?_; rintro e w6 ⟨rfl, H6, hb6⟩; have P6 := Kept.mk H6; have B6 := Kept.mk (B5.out.trans hb6); clear H6 hb6 CS) | (go_at_call 53; refine (C1.out _ P6.out).mono ?_; rintro e w7 ⟨rfl, H7, hb7⟩; have P7 := Kept.mk H7; have B7 := Kept.mk (B6.out.trans hb7); clear H7 hb7 C1) | (go_at_call 53; refine (C2.out _ P7.out).mono ?_; rintro e w8 ⟨rfl, H8, hb8⟩; have P8 := Kept.mk H8; have B8 := Kept.mk (B7.out.trans hb8); clear H8 hb8 C2) | (go_at_call 55; refine (C3.out _ P8.out).mono ?_; rintro e w9 ⟨rfl, H9, hb9⟩; have c9 := H9.c2; have P9 := Kept.mk H9; have B9 := Kept.mk (B8.out.trans hb9); clear H9 hb9 C3))
                        go_roundg gg
                        case measure => omega
                        case rel => exact ⟨st', (true, r1), done, 0, rfl, P9, B9, ⟨docX_bad⟩, fun e => by cases e⟩
                      | ok r1 =>
                        rw [hmu] at hF C3
                        dsimp only at hF
                        have hl1 := (Ppa.mustL_suf hmu).length_le
                        have hmv : Ppa.meas st' r1 ≤ 800000 := by unfold Ppa.meas; omega
                        have CP := Kept.mk (fun (W : World) (H : Re B b s st' (false, r1) W) => rcomment_any 0 H hmv)
                        have HN := Kept.mk (fun (W : World) (hW : EndR B b s (Ppa.commM 0 r1 st') W) => doc_next (R := s.size) (R2 := r1.length) hW hF (fun r2 s1 e => ⟨Nat.le_trans (Ppa.commM_ok e).2.1 hmv, (Ppa.commM_ok e).1.length_le⟩) (by omega))
                        clear HX hF htx htu hbs hbl c0 c60 h63 h33 hmm hmu hmv
                        go_wp2_with (first | (go_at_call 50; refine (CL.out).mono ?_; rintro e w2 ⟨rfl, H2, hb2⟩; have d1 := H2.c1; dsimp only at d1; rw [hk] at d1; have P2 := Kept.mk H2; have B2 := Kept.mk (BW.out.trans hb2); clear H2 hb2 CL) | (go_at_call 48; refine (CB.out _).mono ?_; rintro e w15 ⟨rfl, rfl⟩))
                        have bx1 := beh_cell d1
                        have bx0 := beh_cell P2.out.c0
                        refine wp_region_beh (by kernel_rfl) (by kernel_rfl) ?_
                        repeat
                          (refine Qw_step (fun K hK => ?_)
                           go_simp
                           first
                             | (refine hK _ ?_; clear hK K)
                             | (apply Exists.intro
                                refine ⟨fun _ => ?_, hK _ ?_⟩
                                (fail)
                                clear hK K))
                        refine Qw_nil ?_
                        rintro w5 ⟨⟨_, hb5⟩, rfl⟩
                        have P5 := Kept.mk (P2.out.below hb5)
                        have B5 := Kept.mk (B2.out.trans (hb5.mono P2.out.hB))
                        clear hb5 bx0 bx1
                        go_wp2_with (first | (go_at_call 51; refine (CS.out _ P5.out).mono ?_; rintro e w6 ⟨rfl, H6, hb6⟩; have P6 := Kept.mk H6; have B6 := Kept.mk (B5.out.trans hb6); clear H6 hb6 CS) | (go_at_call 53; refine (C1.out _ P6.out).mono ?_; rintro e w7 ⟨rfl, H7, hb7⟩; have P7 := Kept.mk H7; have B7 := Kept.mk (B6.out.trans hb7); clear H7 hb7 C1) | (go_at_call 53; refine (C2.out _ P7.out).mono ?_; rintro e w8 ⟨rfl, H8, hb8⟩; have P8 := Kept.mk H8; have B8 := Kept.mk (B7.out.trans hb8); clear H8 hb8 C2) | (go_at_call 55; refine (C3.out _ P8.out).mono ?_; rintro e w9 ⟨rfl, H9, hb9⟩; have c9 := H9.c2; have P9 := Kept.mk H9; have B9 := Kept.mk (B8.out.trans hb9); clear H9 hb9 C3) | (go_at_call 56; refine (CP.out _ P9.out).mono ?_; rintro e w10 ⟨rfl, H10, hb10⟩; have P10 := Kept.mk H10; have B10 := Kept.mk (B9.out.trans hb10); clear H10 hb10 CP))
                        obtain ⟨st2, σ2, h2a, h2b, h2c⟩ := HN.out _ P10.out
                        have h2k := Kept.mk h2a
                        have h2l := Kept.mk h2b
                        clear h2a h2b
                        go_roundg gg
                        case measure => omega
                        case rel => exact ⟨st2, σ2, done, _, rfl, h2k, B10, h2l, fun e => by have := h2c e; omega⟩
                    · have C2 := Kept.mk (fun W => is_en (B := B) (b := b) (s := s) (st := st') 33 33 rfl (by decide) (by decide) h33 W)
                      rw [docF_elem hbs h63 h33] at hF
                      cases done
                      · rw [if_neg (by simp)] at hF
                        cases hel : Ppa.elemF s.size f 0 1 u st' with
                        | none => rw [hel] at hF; cases hF
                        | some oe =>
                          rw [hel] at hF
                          have hF2 : nextD s.size f true oe = some o := by
                            cases oe with
                            | error t => exact hF
                            | ok q => exact hF
                          cases f with
                          | zero => unfold Ppa.elemF at hel; cases hel
                          | succ f =>
                            have hmv : Ppa.meas st' u ≤ 800000 := by unfold Ppa.meas; omega
                            have hfr : (k : Int) = (s.size : Int) - u.length - 1 := by simp at hk; omega
                            have CE := Kept.mk (fun (W : World) (H : Re B b s st' (false, u) W) => relement_any (both_r B b s f).1 0 (k : Int) 1 H hmv (by omega) hfr hel)
                            have HN := Kept.mk (fun (W : World) (hW : EndR B b s oe W) => doc_next (R := s.size) (R2 := u.length) hW hF2 (fun r2 s1 e => by subst e; have hk := (Ppa.kc_all s.size (f + 1)).elem 0 1 u st' r2 s1 hel; exact ⟨Nat.le_trans hk.2.1 hmv, hk.1.length_le⟩) (by omega))
                            clear HX hF hF2 htx htu hbs hbl c0 c60 h63 h33 hmm hmv hfr hel
                            go_wp2_with (first | (go_at_call 50; refine (CL.out).mono ?_; rintro e w2 ⟨rfl, H2, hb2⟩; have d1 := H2.c1; dsimp only at d1; rw [hk] at d1; have P2 := Kept.mk H2; have B2 := Kept.mk (BW.out.trans hb2); clear H2 hb2 CL) | (go_at_call 48; refine (CB.out _).mono ?_; rintro e w15 ⟨rfl, rfl⟩))
                            have bx1 := beh_cell d1
                            have bx0 := beh_cell P2.out.c0
                            refine wp_region_beh (by kernel_rfl) (by kernel_rfl) ?_
                            repeat
                              (refine Qw_step (fun K hK => ?_)
                               go_simp
                               first
                                 | (refine hK _ ?_; clear hK K)
                                 | (apply Exists.intro
                                    refine ⟨fun _ => ?_, hK _ ?_⟩
                                    (fail)
                                    clear hK K))
                            refine Qw_nil ?_
                            rintro w5 ⟨⟨_, hb5⟩, rfl⟩
                            have P5 := Kept.mk (P2.out.below hb5)
                            have B5 := Kept.mk (B2.out.trans (hb5.mono P2.out.hB))
                            clear hb5 bx0 bx1
                            go_wp2_with (first | (go_at_call 51; refine (CS.out _ P5.out).mono ?_; rintro e w6 ⟨rfl, H6, hb6⟩; have P6 := Kept.mk H6; have B6 := Kept.mk (B5.out.trans hb6); clear H6 hb6 CS) | (go_at_call 53; refine (C1.out _ P6.out).mono ?_; rintro e w7 ⟨rfl, H7, hb7⟩; have P7 := Kept.mk H7; have B7 := Kept.mk (B6.out.trans hb7); clear H7 hb7 C1) | (go_at_call 53; refine (C2.out _ P7.out).mono ?_; rintro e w8 ⟨rfl, H8, hb8⟩; have P8 := Kept.mk H8; have B8 := Kept.mk (B7.out.trans hb8); clear H8 hb8 C2) | (go_at_call 57; refine (CE.out _ P8.out).mono ?_; rintro e w10 ⟨rfl, H10, hb10⟩; have P10 := Kept.mk H10; have B10 := Kept.mk (B8.out.trans hb10); clear H10 hb10 CE))
                            obtain ⟨st2, σ2, h2a, h2b, h2c⟩ := HN.out _ P10.out
                            have h2k := Kept.mk h2a
                            have h2l := Kept.mk h2b
                            clear h2a h2b
                            go_roundg gg
                            case measure => omega
                            case rel => exact ⟨st2, σ2, true, _, rfl, h2k, B10, h2l, fun e => by have := h2c e; omega⟩
                      · rw [if_pos rfl] at hF
                        injection hF with hF
                        subst hF
                        clear HX htx htu hbs hbl c0 c60 h63 h33 hmm
                        go_wp2_with (first | (go_at_call 50; refine (CL.out).mono ?_; rintro e w2 ⟨rfl, H2, hb2⟩; have d1 := H2.c1; dsimp only at d1; rw [hk] at d1; have P2 := Kept.mk H2; have B2 := Kept.mk (BW.out.trans hb2); clear H2 hb2 CL) | (go_at_call 48; refine (CB.out _).mono ?_; rintro e w15 ⟨rfl, rfl⟩))
                        have bx1 := beh_cell d1
                        have bx0 := beh_cell P2.out.c0
                        refine wp_region_beh (by kernel_rfl) (by kernel_rfl) ?_
                        repeat
                          (refine Qw_step (fun K hK => ?_)
                           go_simp
                           first
                             | (refine hK _ ?_; clear hK K)
                             | (apply Exists.intro
                                refine ⟨fun _ => ?_, hK _ ?_⟩
                                (fail)
                                clear hK K))
                        refine Qw_nil ?_
                        rintro w5 ⟨⟨_, hb5⟩, rfl⟩
                        have P5 := Kept.mk (P2.out.below hb5)
                        have B5 := Kept.mk (B2.out.trans (hb5.mono P2.out.hB))
                        clear hb5 bx0 bx1
                        go_wp2_with (first | (go_at_call 51; refine (CS.out _ P5.out).mono ?_; rintro e w6 ⟨rfl, H6, hb6⟩; have P6 := Kept.mk H6; have B6 := Kept.mk (B5.out.trans hb6); clear H6 hb6 CS) | (go_at_call 53; refine (C1.out _ P6.out).mono ?_; rintro e w7 ⟨rfl, H7, hb7⟩; have P7 := Kept.mk H7; have B7 := Kept.mk (B6.out.trans hb7); clear H7 hb7 C1) | (go_at_call 53; refine (C2.out _ P7.out).mono ?_; rintro e w8 ⟨rfl, H8, hb8⟩; have P8 := Kept.mk H8; have B8 := Kept.mk (B7.out.trans hb8); clear H8 hb8 C2) | (go_at_call 52; refine (no_e P8.out).mono ?_; rintro e w9 ⟨rfl, H9, hb9⟩; have P9 := Kept.mk H9; have B9 := Kept.mk (B8.out.trans hb9); clear H9 hb9))
                        go_roundg gg
                        case measure => omega
                        case rel => exact ⟨st', (true, u), true, 0, rfl, P9, B9, ⟨docX_bad⟩, fun e => by cases e⟩
                · have k60 := lk_head 60 (by decide) (by decide) 60 rfl c60
                  have hne : r' ≠ [] := by rintro rfl; exact c0 (lk_nil _)
                  rw [docF_bad (by rw [hbs]; exact hne) (by rw [hbs]; exact k60), hbs] at hF
                  injection hF with hF
                  subst hF
                  generalize lk (false, r') = C at CL CB c0 c60
                  have m0 : ¬ (C : Int) = 0 := by omega
                  have m1 : ¬ (C : Int) = 60 := by omega
                  have q0 : ((C : Int) == 0) = false := by simpa using m0
                  have q1 : ((C : Int) != 60) = true := by simpa using m1
                  clear HX htx hbs hbl c0 c60 k60 hne hmm
                  go_wp2_with (first | (go_at_call 50; refine (CL.out).mono ?_; rintro e w2 ⟨rfl, H2, hb2⟩; have d1 := H2.c1; dsimp only at d1; rw [hk] at d1; have P2 := Kept.mk H2; have B2 := Kept.mk (BW.out.trans hb2); clear H2 hb2 CL) | (go_at_call 48; refine (CB.out _).mono ?_; rintro e w15 ⟨rfl, rfl⟩))
                  have bx1 := beh_cell d1
                  have bx0 := beh_cell P2.out.c0
                  refine wp_region_beh (by kernel_rfl) (by kernel_rfl) ?_
                  repeat
                    (refine Qw_step (fun K hK => ?_)
                     go_simp
                     first
                       | (refine hK _ ?_; clear hK K)
                       | (apply Exists.intro
                          refine ⟨fun _ => ?_, hK _ ?_⟩
                          (fail)
                          clear hK K))
                  refine Qw_nil ?_
                  rintro w5 ⟨⟨_, hb5⟩, rfl⟩
                  have P5 := Kept.mk (P2.out.below hb5)
                  have B5 := Kept.mk (B2.out.trans (hb5.mono P2.out.hB))
                  clear hb5 bx0 bx1
                  go_wp2_with (first | (go_at_call 52; refine (no_e P5.out).mono ?_; rintro e w6 ⟨rfl, H6, hb6⟩; have P6 := Kept.mk H6; have B6 := Kept.mk (B5.out.trans hb6); clear H6 hb6))
                  go_roundg gg
                  case measure => omega
                  case rel => exact ⟨st', (true, r'), done, 0, rfl, P6, B6, ⟨docX_bad⟩, fun e => by cases e⟩
          · have hX : o = .error r' := by rw [if_pos rfl] at hX; exact hX
            subst hX
            clear HX
            go_wp2
            go_end0
            exact ⟨rfl, endD_no HP.out, BW.out⟩
      | true =>
        rw [hp] at hxc
        have hxe : (s.extract 0 5).toList = [60, 63, 120, 109, 108] := by simpa using hxc
        obtain ⟨y, t, hyt⟩ : ∃ y t, s.data.toList.drop 5 = y :: t := by
          cases hd : s.data.toList.drop 5 with
          | nil =>
            have := congrArg List.length hd
            rw [List.length_drop] at this
            simp at this
            omega
          | cons y t => exact ⟨y, t, rfl⟩
        have hbt : bt s 5 = (y.toNat : Int) := by
          rw [bt_getD]
          have : s.data.toList.getD 5 0 = (s.data.toList.drop 5).getD 0 0 := by rw [Lib.getD_dropU]
          rw [this, hyt]
          rfl
        have hgb := get_bt s
        have CB0 := Kept.mk (fun W => rblank_any y.toNat W)
        have hbk : blkN y.toNat = false := by
          have hb : blankH (y :: t) = false := by
            cases hh : blankH (y :: t) with
            | false => rfl
            | true => exact absurd ⟨hp, by rw [hyt]; exact hh⟩ hc
          rcases Nat.lt_or_ge y.toNat 128 with hy | hy
          · have h := blk_lk false (y :: t)
            rw [lk_low y t hy] at h
            rw [h, hb]
            rfl
          · unfold blkN
            rw [decide_eq_false_iff_not]
            omega
        rw [hbk] at CB0
        have y2 := y.toNat_lt
        have y0 : (0 : Int) ≤ (y.toNat : Int) := by omega
        have y1 : (y.toNat : Int) ≤ 255 := by omega
        generalize y.toNat = yy at *
        clear hc hp htx hsl HS hyt hbk y2
        go_enter Tryz.func22, Tryz.ntmps22
        go_wp2_with (first | (go_at_call 47; refine (CA.out).mono ?_; rintro e w1 ⟨rfl, H1, hb1⟩; have c0 := H1.c0; have c1 := H1.c1; dsimp only at c1; have f1 := H1.unf 1; have P1 := Kept.mk H1; have B1 := Kept.mk (B0.out.trans hb1); clear H1 hb1 CA) | (go_at_call 48; refine (CB0.out _).mono ?_; rintro e w15 ⟨rfl, rfl⟩))
        go_loopg [2, 3, 4] (F + s.size) (fun g v2 _ _ wx => ∃ (st' : Ppa.St) (σ' : Sg) (done : Bool) (f : Nat), v2 = .bool done ∧ Kept (Re B b s st' σ' wx) ∧ Kept (Below B w wx) ∧ Kept (DocX s.size o s.size f done st' σ') ∧ (σ'.1 = false → f + σ'.2.length ≤ g))
        case atStart => exact ⟨Ppa.stR, _, false, F, rfl, P1, B1, HX0, fun _ => Nat.add_le_add_left P1.out.len F⟩
        case round =>
          obtain ⟨st', ⟨x, r'⟩, done, f, rfl, HP, BW, HX, hg⟩ := hrel
          clear B0 B1 P1 HX0
          have bd := HP.out.c2
          dsimp only at bd hg
          have hX := HX.out
          unfold DocX at hX
          cases x
          · rw [if_neg (by simp)] at hX
            obtain ⟨hF, hmm, hrR⟩ := hX
            dsimp only at hF hmm hrR
            have hg := hg rfl
            obtain ⟨f, rfl⟩ : ∃ f', f = f' + 1 := by
              cases f with
              | zero => exfalso; rw [Ppa.docF] at hF; cases hF
              | succ f => exact ⟨f, rfl⟩
            obtain ⟨gg, rfl⟩ : ∃ gg, gk = gg + 1 := ⟨gk - 1, by omega⟩
            have htx := HP.out.tx
            dsimp only at htx
            obtain ⟨k, hk⟩ : ∃ k, s.size - r'.length = k := ⟨_, rfl⟩
            have CL := Kept.mk (look_e HP.out)
            have CB := Kept.mk (fun W => rblank_any (lk (false, r')) W)
            rw [blk_lk] at CB
            have hm9 := hmm
            unfold Ppa.meas at hm9
            cases hbl : blankH r' with
            | true =>
              rw [hbl] at CB
              obtain ⟨y, t, rfl⟩ : ∃ y t, r' = y :: t := by
                cases r' with
                | nil => cases hbl
                | cons y t => exact ⟨y, t, rfl⟩
              have CS := Kept.mk (fun (W : World) (H : Re B b s st' (false, y :: t) W) => step_e H (by simp))
              dsimp only at CS
              rw [skip_low y t (blankC_low hbl)] at CS
              have HY : Kept (DocX s.size o s.size (f + 1) done st' (false, t)) := ⟨docX_good (by rw [← hF]; exact docF_same (blanksL_of_true hbl).symm) (by unfold Ppa.meas at hmm ⊢; simp at hmm; omega) (by simp at hrR; omega)⟩
              generalize lk (false, y :: t) = C at CL CB
              clear HX hF hbl htx
              go_wp2_with (first | (go_at_call 50; refine (CL.out).mono ?_; rintro e w2 ⟨rfl, H2, hb2⟩; have d1 := H2.c1; dsimp only at d1; rw [hk] at d1; have P2 := Kept.mk H2; have B2 := Kept.mk (BW.out.trans hb2); clear H2 hb2 CL) | (go_at_call 48; refine (CB.out _).mono ?_; rintro e w15 ⟨rfl, rfl⟩) | (go_at_call 51; refine (CS.out _ P2.out).mono ?_; rintro e w6 ⟨rfl, H6, hb6⟩; have P6 := Kept.mk H6; have B6 := Kept.mk (B2.out.trans hb6); clear H6 hb6 CS))
              go_roundg gg
              case measure => omega
              case rel => exact ⟨st', (false, t), done, f + 1, rfl, P6, B6, HY, fun _ => by simp at hg ⊢; omega⟩
            | false =>
              rw [hbl] at CB
              have hbs := blanksL_of_false hbl
              by_cases c0 : lk (false, r') = 0
              · have hnil : r' = [] := by
                  by_cases hn : r' = []
                  · exact hn
                  · have := lk_pos hn htx; omega
                subst hnil
                rw [c0] at CL CB
                have hks : (k : Int) = (s.size : Int) := by simp at hk; omega
                rw [docF_nil hbs] at hF
                cases done
                · rw [if_neg (by simp)] at hF
                  injection hF with hF
                  subst hF
                  clear HX htx hbs hbl c0
                  go_wp2_with (first | (go_at_call 50; refine (CL.out).mono ?_; rintro e w2 ⟨rfl, H2, hb2⟩; have d1 := H2.c1; dsimp only at d1; rw [hk] at d1; have P2 := Kept.mk H2; have B2 := Kept.mk (BW.out.trans hb2); clear H2 hb2 CL) | (go_at_call 48; refine (CB.out _).mono ?_; rintro e w15 ⟨rfl, rfl⟩))
                  have bx1 := beh_cell d1
                  have bx0 := beh_cell P2.out.c0
                  refine wp_region_beh (by kernel_rfl) (by kernel_rfl) ?_
                  repeat
                    (refine Qw_step (fun K hK => ?_)
                     go_simp
                     first
                       | (refine hK _ ?_; clear hK K)
                       | (apply Exists.intro
                          refine ⟨fun _ => ?_, hK _ ?_⟩
                          (fail)
                          clear hK K))
                  refine Qw_nil ?_
                  rintro w5 ⟨⟨_, hb5⟩, rfl⟩
                  have P5 := Kept.mk (P2.out.below hb5)
                  have B5 := Kept.mk (B2.out.trans (hb5.mono P2.out.hB))
                  clear hb5 bx0 bx1
                  go_wp2_with (first | (go_at_call 52; refine (no_e P5.out).mono ?_; rintro e w6 ⟨rfl, H6, hb6⟩; have P6 := Kept.mk H6; have B6 := Kept.mk (B5.out.trans hb6); clear H6 hb6))
                  go_roundg gg
                  case measure => omega
                  case rel => exact ⟨st', (true, []), false, 0, rfl, P6, B6, ⟨docX_bad⟩, fun e => by cases e⟩
                · rw [if_pos rfl] at hF
                  injection hF with hF
                  subst hF
                  clear HX htx hbs hbl c0
                  go_wp2_with (first | (go_at_call 50; refine (CL.out).mono ?_; rintro e w2 ⟨rfl, H2, hb2⟩; have d1 := H2.c1; dsimp only at d1; rw [hk] at d1; have P2 := Kept.mk H2; have B2 := Kept.mk (BW.out.trans hb2); clear H2 hb2 CL) | (go_at_call 48; refine (CB.out _).mono ?_; rintro e w15 ⟨rfl, rfl⟩))
                  have bx1 := beh_cell d1
                  have bx0 := beh_cell P2.out.c0
                  refine wp_region_beh (by kernel_rfl) (by kernel_rfl) ?_
                  repeat
                    (refine Qw_step (fun K hK => ?_)
                     go_simp
                     first
                       | (refine hK _ ?_; clear hK K)
                       | (apply Exists.intro
                          refine ⟨fun _ => ?_, hK _ ?_⟩
                          (fail)
                          clear hK K))
                  refine Qw_nil ?_
                  rintro w5 ⟨⟨_, hb5⟩, rfl⟩
                  have P5 := Kept.mk (P2.out.below hb5)
                  have B5 := Kept.mk (B2.out.trans (hb5.mono P2.out.hB))
                  clear hb5 bx0 bx1
                  go_wp2
                  refine bodyPost_ret (results_none rfl _ _ _) rfl ?_
                  exact ⟨rfl, endD_ok P5.out, B5.out⟩
              · by_cases c60 : lk (false, r') = 60
                · obtain ⟨u, rfl⟩ := lk_cons 60 (by decide) (by decide) 60 rfl c60
                  rw [c60] at CL CB
                  have CS := Kept.mk (fun (W : World) (H : Re B b s st' (false, 60 :: u) W) => step_e H (by simp))
                  dsimp only at CS
                  rw [skip_low 60 u (by decide)] at CS
                  simp only [List.length_cons] at hg hrR hm9
                  have htu := Ppa.texts_low (by decide) htx
                  by_cases h63 : u.head? = some 63
                  · obtain ⟨v, rfl⟩ := head_cons h63
                    rw [docF_pi hbs] at hF
                    have C1 := Kept.mk (fun W => is_ey (B := B) (b := b) (s := s) (st := st') (t := v) 63 63 rfl (by decide) (by decide) W)
                    have hmv : Ppa.meas st' v ≤ 800000 := by unfold Ppa.meas; simp at hm9; omega
                    have CP := Kept.mk (fun (W : World) (H : Re B b s st' (false, v) W) => rpi_any 0 H hmv)
                    have HN := Kept.mk (fun (W : World) (hW : EndR B b s (Ppa.instrM 0 v st') W) => doc_next (R := s.size) (R2 := v.length) hW hF (fun r1 s1 e => ⟨Nat.le_trans (Ppa.instrM_ok e).2.1 hmv, (Ppa.instrM_ok e).1.length_le⟩) (by simp at hrR; omega))
                    simp only [List.length_cons] at hg
                    clear HX hF htx htu hbs hbl c0 c60 h63 hmm hmv
                    go_wp2_with (first | (go_at_call 50; refine (CL.out).mono ?_; rintro e w2 ⟨rfl, H2, hb2⟩; have d1 := H2.c1; dsimp only at d1; rw [hk] at d1; have P2 := Kept.mk H2; have B2 := Kept.mk (BW.out.trans hb2); clear H2 hb2 CL) | (go_at_call 48; refine (CB.out _).mono ?_; rintro e w15 ⟨rfl, rfl⟩))
                    have bx1 := beh_cell d1
                    have bx0 := beh_cell P2.out.c0
                    refine wp_region_beh (by kernel_rfl) (by kernel_rfl) ?_
                    repeat
                      (refine Qw_step (fun K hK => ?_)
                       go_simp
                       first
                         | (refine hK _ ?_; clear hK K)
                         | (apply Exists.intro
                            refine ⟨fun _ => ?_, hK _ ?_⟩
                            (fail)
                            clear hK K))
                    refine Qw_nil ?_
                    rintro w5 ⟨⟨_, hb5⟩, rfl⟩
                    have P5 := Kept.mk (P2.out.below hb5)
                    have B5 := Kept.mk (B2.out.trans (hb5.mono P2.out.hB))
                    clear hb5 bx0 bx1
                    go_wp2_with (first | (go_at_call 51; refine (CS.out _ P5.out).mono ?_; rintro e w6 ⟨rfl, H6, hb6⟩; have P6 := Kept.mk H6; have B6 := Kept.mk (B5.out.trans hb6); clear H6 hb6 CS) | (go_at_call 53; refine (C1.out _ P6.out).mono ?_; rintro e w7 ⟨rfl, H7, hb7⟩; have P7 := Kept.mk H7; have B7 := Kept.mk (B6.out.trans hb7); clear H7 hb7 C1) | (go_at_call 54; refine (CP.out _ P7.out).mono ?_; rintro e w10 ⟨rfl, H10, hb10⟩; have P10 := Kept.mk H10; have B10 := Kept.mk (B7.out.trans hb10); clear H10 hb10 CP))
                    obtain ⟨st2, σ2, h2a, h2b, h2c⟩ := HN.out _ P10.out
                    have h2k := Kept.mk h2a
                    have h2l := Kept.mk h2b
                    clear h2a h2b
                    go_roundg gg
                    case measure => omega
                    case rel => exact ⟨st2, σ2, done, _, rfl, h2k, B10, h2l, fun e => by have := h2c e; omega⟩
                  · have C1 := Kept.mk (fun W => is_en (B := B) (b := b) (s := s) (st := st') 63 63 rfl (by decide) (by decide) h63 W)
                    by_cases h33 : u.head? = some 33
                    · obtain ⟨v, rfl⟩ := head_cons h33
                      rw [docF_bang hbs] at hF
                      have C2 := Kept.mk (fun W => is_ey (B := B) (b := b) (s := s) (st := st') (t := v) 33 33 rfl (by decide) (by decide) W)
                      have C3 := Kept.mk (fun (W : World) (H : Re B b s st' (false, v) W) => must_e ⟨#[45]⟩ (by decide) (by decide) H)
                      rw [show (⟨#[45]⟩ : ByteArray).data.toList = [45] from rfl, mustB_ex] at C3
                      simp only [List.length_cons] at hg hrR hm9
                      cases hmu : Ppa.mustL [45] v with
                      | error r1 =>
                        rw [hmu] at hF C3
                        injection hF with hF
                        subst hF
                        clear HX htx htu hbs hbl c0 c60 h63 h33 hmm hmu
                        go_wp2_with (first | (go_at_call 50; refine (CL.out).mono ?_; rintro e w2 ⟨rfl, H2, hb2⟩; have d1 := H2.c1; dsimp only at d1; rw [hk] at d1; have P2 := Kept.mk H2; have B2 := Kept.mk (BW.out.trans hb2); clear H2 hb2 CL) | (go_at_call 48; refine (CB.out _).mono ?_; rintro e w15 ⟨rfl, rfl⟩))
                        have bx1 := beh_cell d1
                        have bx0 := beh_cell P2.out.c0
                        refine wp_region_beh (by kernel_rfl) (by kernel_rfl) ?_
                        repeat
                          (refine Qw_step (fun K hK => ?_)
                           go_simp
                           first
                             | (refine hK _ ?_; clear hK K)
                             | (apply Exists.intro
                                refine ⟨fun _ => ?_, hK _ ?_⟩
                                (fail)
                                clear hK K))
                        refine Qw_nil ?_
                        rintro w5 ⟨⟨_, hb5⟩, rfl⟩
                        have P5 := Kept.mk (P2.out.below hb5)
                        have B5 := Kept.mk (B2.out.trans (hb5.mono P2.out.hB))
                        clear hb5 bx0 bx1
                        go_wp2_with (first | (go_at_call 51; refine (CS.out _ P5.out).mono ?_; rintro e w6 ⟨rfl, H6, hb6⟩; have P6 := Kept.mk H6; have B6 := Kept.mk (B5.out.trans hb6); clear H6 hb6 CS) | (go_at_call 53; refine (C1.out _ P6.out).mono ?_; rintro e w7 ⟨rfl, H7, hb7⟩; have P7 := Kept.mk H7; have B7 := Kept.mk (B6.out.trans hb7); clear H7 hb7 C1) | (go_at_call 53; refine (C2.out _ P7.out).mono ?_; rintro e w8 ⟨rfl, H8, hb8⟩; have P8 := Kept.mk H8; have B8 := Kept.mk (B7.out.trans hb8); clear H8 hb8 C2) | (go_at_call 55; refine (C3.out _ P8.out).mono ?_; rintro e w9 ⟨rfl, H9, hb9⟩; have c9 := H9.c2; have P9 := Kept.mk H9; have B9 := Kept.mk (B8.out.trans hb9); clear H9 hb9 C3))
                        go_roundg gg
                        case measure => omega
                        case rel => exact ⟨st', (true, r1), done, 0, rfl, P9, B9, ⟨docX_bad⟩, fun e => by cases e⟩
                      | ok r1 =>
                        rw [hmu] at hF C3
                        dsimp only at hF
                        have hl1 := (Ppa.mustL_suf hmu).length_le
                        have hmv : Ppa.meas st' r1 ≤ 800000 := by unfold Ppa.meas; omega
                        have CP := Kept.mk (fun (W : World) (H : Re B b s st' (false, r1) W) => rcomment_any 0 H hmv)
                        have HN := Kept.mk (fun (W : World) (hW : EndR B b s (Ppa.commM 0 r1 st') W) => doc_next (R := s.size) (R2 := r1.length) hW hF (fun r2 s1 e => ⟨Nat.le_trans (Ppa.commM_ok e).2.1 hmv, (Ppa.commM_ok e).1.length_le⟩) (by omega))
                        clear HX hF htx htu hbs hbl c0 c60 h63 h33 hmm hmu hmv
                        go_wp2_with (first | (go_at_call 50; refine (CL.out).mono ?_; rintro e w2 ⟨rfl, H2, hb2⟩; have d1 := H2.c1; dsimp only at d1; rw [hk] at d1; have P2 := Kept.mk H2; have B2 := Kept.mk (BW.out.trans hb2); clear H2 hb2 CL) | (go_at_call 48; refine (CB.out _).mono ?_; rintro e w15 ⟨rfl, rfl⟩))
                        have bx1 := beh_cell d1
                        have bx0 := beh_cell P2.out.c0
                        refine wp_region_beh (by kernel_rfl) (by kernel_rfl) ?_
                        repeat
                          (refine Qw_step (fun K hK => ?_)
                           go_simp
                           first
                             | (refine hK _ ?_; clear hK K)
                             | (apply Exists.intro
                                refine ⟨fun _ => ?_, hK _ ?_⟩
                                (fail)
                                clear hK K))
                        refine Qw_nil ?_
                        rintro w5 ⟨⟨_, hb5⟩, rfl⟩
                        have P5 := Kept.mk (P2.out.below hb5)
                        have B5 := Kept.mk (B2.out.trans (hb5.mono P2.out.hB))
                        clear hb5 bx0 bx1
                        go_wp2_with (first | (go_at_call 51; refine (CS.out _ P5.out).mono ?_; rintro e w6 ⟨rfl, H6, hb6⟩; have P6 := Kept.mk H6; have B6 := Kept.mk (B5.out.trans hb6); clear H6 hb6 CS) | (go_at_call 53; refine (C1.out _ P6.out).mono ?_; rintro e w7 ⟨rfl, H7, hb7⟩; have P7 := Kept.mk H7; have B7 := Kept.mk (B6.out.trans hb7); clear H7 hb7 C1) | (go_at_call 53; refine (C2.out _ P7.out).mono ?_; rintro e w8 ⟨rfl, H8, hb8⟩; have P8 := Kept.mk H8; have B8 := Kept.mk (B7.out.trans hb8); clear H8 hb8 C2) | (go_at_call 55; refine (C3.out _ P8.out).mono ?_; rintro e w9 ⟨rfl, H9, hb9⟩; have c9 := H9.c2; have P9 := Kept.mk H9; have B9 := Kept.mk (B8.out.trans hb9); clear H9 hb9 C3) | (go_at_call 56; refine (CP.out _ P9.out).mono ?_; rintro e w10 ⟨rfl, H10, hb10⟩; have P10 := Kept.mk H10; have B10 := Kept.mk (B9.out.trans hb10); clear H10 hb10 CP))
                        obtain ⟨st2, σ2, h2a, h2b, h2c⟩ := HN.out _ P10.out
                        have h2k := Kept.mk h2a
                        have h2l := Kept.mk h2b
                        clear h2a h2b
                        go_roundg gg
                        case measure => omega
                        case rel => exact ⟨st2, σ2, done, _, rfl, h2k, B10, h2l, fun e => by have := h2c e; omega⟩
                    · have C2 := Kept.mk (fun W => is_en (B := B) (b := b) (s := s) (st := st') 33 33 rfl (by decide) (by decide) h33 W)
                      rw [docF_elem hbs h63 h33] at hF
                      cases done
                      · rw [if_neg (by simp)] at hF
                        cases hel : Ppa.elemF s.size f 0 1 u st' with
                        | none => rw [hel] at hF; cases hF
                        | some oe =>
                          rw [hel] at hF
                          have hF2 : nextD s.size f true oe = some o := by
                            cases oe with
                            | error t => exact hF
                            | ok q => exact hF
                          cases f with
                          | zero => unfold Ppa.elemF at hel; cases hel
                          | succ f =>
                            have hmv : Ppa.meas st' u ≤ 800000 := by unfold Ppa.meas; omega
                            have hfr : (k : Int) = (s.size : Int) - u.length - 1 := by simp at hk; omega
                            have CE := Kept.mk (fun (W : World) (H : Re B b s st' (false, u) W) => relement_any (both_r B b s f).1 0 (k : Int) 1 H hmv (by omega) hfr hel)
                            have HN := Kept.mk (fun (W : World) (hW : EndR B b s oe W) => doc_next (R := s.size) (R2 := u.length) hW hF2 (fun r2 s1 e => by subst e; have hk := (Ppa.kc_all s.size (f + 1)).elem 0 1 u st' r2 s1 hel; exact ⟨Nat.le_trans hk.2.1 hmv, hk.1.length_le⟩) (by omega))
                            clear HX hF hF2 htx htu hbs hbl c0 c60 h63 h33 hmm hmv hfr hel
                            go_wp2_with (first | (go_at_call 50; refine (CL.out).mono ?_; rintro e w2 ⟨rfl, H2, hb2⟩; have d1 := H2.c1; dsimp only at d1; rw [hk] at d1; have P2 := Kept.mk H2; have B2 := Kept.mk (BW.out.trans hb2); clear H2 hb2 CL) | (go_at_call 48; refine (CB.out _).mono ?_; rintro e w15 ⟨rfl, rfl⟩))
                            have bx1 := beh_cell d1
                            have bx0 := beh_cell P2.out.c0
                            refine wp_region_beh (by kernel_rfl) (by kernel_rfl) ?_
                            repeat
                              (refine Qw_step (fun K hK => ?_)
                               go_simp
                               first
                                 | (refine hK _ ?_; clear hK K)
                                 | (apply Exists.intro
                                    refine ⟨fun _ => ?_, hK _ ?_⟩
                                    (fail)
                                    clear hK K))
                            refine Qw_nil ?_
                            rintro w5 ⟨⟨_, hb5⟩, rfl⟩
                            have P5 := Kept.mk (P2.out.below hb5)
                            have B5 := Kept.mk (B2.out.trans (hb5.mono P2.out.hB))
                            clear hb5 bx0 bx1
                            go_wp2_with (first | (go_at_call 51; refine (CS.out _ P5.out).mono ?_; rintro e w6 ⟨rfl, H6, hb6⟩; have P6 := Kept.mk H6; have B6 := Kept.mk (B5.out.trans hb6); clear H6 hb6 CS) | (go_at_call 53; refine (C1.out _ P6.out).mono ?_; rintro e w7 ⟨rfl, H7, hb7⟩; have P7 := Kept.mk H7; have B7 := Kept.mk (B6.out.trans hb7); clear H7 hb7 C1) | (go_at_call 53; refine (C2.out _ P7.out).mono ?_; rintro e w8 ⟨rfl, H8, hb8⟩; have P8 := Kept.mk H8; have B8 := Kept.mk (B7.out.trans hb8); clear H8 hb8 C2) | (go_at_call 57; refine (CE.out _ P8.out).mono ?_; rintro e w10 ⟨rfl, H10, hb10⟩; have P10 := Kept.mk H10; have B10 := Kept.mk (B8.out.trans hb10); clear H10 hb10 CE))
                            obtain ⟨st2, σ2, h2a, h2b, h2c⟩ := HN.out _ P10.out
                            have h2k := Kept.mk h2a
                            have h2l := Kept.mk h2b
                            clear h2a h2b
                            go_roundg gg
                            case measure => omega
                            case rel => exact ⟨st2, σ2, true, _, rfl, h2k, B10, h2l, fun e => by have := h2c e; omega⟩
                      · rw [if_pos rfl] at hF
                        injection hF with hF
                        subst hF
                        clear HX htx htu hbs hbl c0 c60 h63 h33 hmm
                        go_wp2_with (first | (go_at_call 50; refine (CL.out).mono ?_; rintro e w2 ⟨rfl, H2, hb2⟩; have d1 := H2.c1; dsimp only at d1; rw [hk] at d1; have P2 := Kept.mk H2; have B2 := Kept.mk (BW.out.trans hb2); clear H2 hb2 CL) | (go_at_call 48; refine (CB.out _).mono ?_; rintro e w15 ⟨rfl, rfl⟩))
                        have bx1 := beh_cell d1
                        have bx0 := beh_cell P2.out.c0
                        refine wp_region_beh (by kernel_rfl) (by kernel_rfl) ?_
                        repeat
                          (refine Qw_step (fun K hK => ?_)
                           go_simp
                           first
                             | (refine hK _ ?_; clear hK K)
                             | (apply Exists.intro
                                refine ⟨fun _ => ?_, hK _ ?_⟩
                                (fail)
                                clear hK K))
                        refine Qw_nil ?_
                        rintro w5 ⟨⟨_, hb5⟩, rfl⟩
                        have P5 := Kept.mk (P2.out.below hb5)
                        have B5 := Kept.mk (B2.out.trans (hb5.mono P2.out.hB))
                        clear hb5 bx0 bx1
                        go_wp2_with (first | (go_at_call 51; refine (CS.out _ P5.out).mono ?_; rintro e w6 ⟨rfl, H6, hb6⟩; have P6 := Kept.mk H6; have B6 := Kept.mk (B5.out.trans hb6); clear H6 hb6 CS) | (go_at_call 53; refine (C1.out _ P6.out).mono ?_; rintro e w7 ⟨rfl, H7, hb7⟩; have P7 := Kept.mk H7; have B7 := Kept.mk (B6.out.trans hb7); clear H7 hb7 C1) | (go_at_call 53; refine (C2.out _ P7.out).mono ?_; rintro e w8 ⟨rfl, H8, hb8⟩; have P8 := Kept.mk H8; have B8 := Kept.mk (B7.out.trans hb8); clear H8 hb8 C2) | (go_at_call 52; refine (no_e P8.out).mono ?_; rintro e w9 ⟨rfl, H9, hb9⟩; have P9 := Kept.mk H9; have B9 := Kept.mk (B8.out.trans hb9); clear H9 hb9))
                        go_roundg gg
                        case measure => omega
                        case rel => exact ⟨st', (true, u), true, 0, rfl, P9, B9, ⟨docX_bad⟩, fun e => by cases e⟩
                · have k60 := lk_head 60 (by decide) (by decide) 60 rfl c60
                  have hne : r' ≠ [] := by rintro rfl; exact c0 (lk_nil _)
                  rw [docF_bad (by rw [hbs]; exact hne) (by rw [hbs]; exact k60), hbs] at hF
                  injection hF with hF
                  subst hF
                  generalize lk (false, r') = C at CL CB c0 c60
                  have m0 : ¬ (C : Int) = 0 := by omega
                  have m1 : ¬ (C : Int) = 60 := by omega
                  have q0 : ((C : Int) == 0) = false := by simpa using m0
                  have q1 : ((C : Int) != 60) = true := by simpa using m1
                  clear HX htx hbs hbl c0 c60 k60 hne hmm
                  go_wp2_with (first | (go_at_call 50; refine (CL.out).mono ?_; rintro e w2 ⟨rfl, H2, hb2⟩; have d1 := H2.c1; dsimp only at d1; rw [hk] at d1; have P2 := Kept.mk H2; have B2 := Kept.mk (BW.out.trans hb2); clear H2 hb2 CL) | (go_at_call 48; refine (CB.out _).mono ?_; rintro e w15 ⟨rfl, rfl⟩))
                  have bx1 := beh_cell d1
                  have bx0 := beh_cell P2.out.c0
                  refine wp_region_beh (by kernel_rfl) (by kernel_rfl) ?_
                  repeat
                    (refine Qw_step (fun K hK => ?_)
                     go_simp
                     first
                       | (refine hK _ ?_; clear hK K)
                       | (apply Exists.intro
                          refine ⟨fun _ => ?_, hK _ ?_⟩
                          (fail)
                          clear hK K))
                  refine Qw_nil ?_
                  rintro w5 ⟨⟨_, hb5⟩, rfl⟩
                  have P5 := Kept.mk (P2.out.below hb5)
                  have B5 := Kept.mk (B2.out.trans (hb5.mono P2.out.hB))
                  clear hb5 bx0 bx1
                  go_wp2_with (first | (go_at_call 52; refine (no_e P5.out).mono ?_; rintro e w6 ⟨rfl, H6, hb6⟩; have P6 := Kept.mk H6; have B6 := Kept.mk (B5.out.trans hb6); clear H6 hb6))
                  go_roundg gg
                  case measure => omega
                  case rel => exact ⟨st', (true, r'), done, 0, rfl, P6, B6, ⟨docX_bad⟩, fun e => by cases e⟩
          · have hX : o = .error r' := by rw [if_pos rfl] at hX; exact hX
            subst hX
            clear HX
            go_wp2
            go_end0
            exact ⟨rfl, endD_no HP.out, BW.out⟩
    · have i5 : ¬ (5 : Int) < (s.size : Int) := by omega
      clear hc htx hsl HS hxc
      go_enter Tryz.func22, Tryz.ntmps22
      go_wp2_with (first | (go_at_call 47; refine (CA.out).mono ?_; rintro e w1 ⟨rfl, H1, hb1⟩; have c0 := H1.c0; have c1 := H1.c1; dsimp only at c1; have f1 := H1.unf 1; have P1 := Kept.mk H1; have B1 := Kept.mk (B0.out.trans hb1); clear H1 hb1 CA))
      go_loopg [2, 3, 4] (F + s.size) (fun g v2 _ _ wx => ∃ (st' : Ppa.St) (σ' : Sg) (done : Bool) (f : Nat), v2 = .bool done ∧ Kept (Re B b s st' σ' wx) ∧ Kept (Below B w wx) ∧ Kept (DocX s.size o s.size f done st' σ') ∧ (σ'.1 = false → f + σ'.2.length ≤ g))
      case atStart => exact ⟨Ppa.stR, _, false, F, rfl, P1, B1, HX0, fun _ => Nat.add_le_add_left P1.out.len F⟩
      case round =>
        obtain ⟨st', ⟨x, r'⟩, done, f, rfl, HP, BW, HX, hg⟩ := hrel
        clear B0 B1 P1 HX0
        have bd := HP.out.c2
        dsimp only at bd hg
        have hX := HX.out
        unfold DocX at hX
        cases x
        · rw [if_neg (by simp)] at hX
          obtain ⟨hF, hmm, hrR⟩ := hX
          dsimp only at hF hmm hrR
          have hg := hg rfl
          obtain ⟨f, rfl⟩ : ∃ f', f = f' + 1 := by
            cases f with
            | zero => exfalso; rw [Ppa.docF] at hF; cases hF
            | succ f => exact ⟨f, rfl⟩
          obtain ⟨gg, rfl⟩ : ∃ gg, gk = gg + 1 := ⟨gk - 1, by omega⟩
          have htx := HP.out.tx
          dsimp only at htx
          obtain ⟨k, hk⟩ : ∃ k, s.size - r'.length = k := ⟨_, rfl⟩
          have CL := Kept.mk (look_e HP.out)
          have CB := Kept.mk (fun W => rblank_any (lk (false, r')) W)
          rw [blk_lk] at CB
          have hm9 := hmm
          unfold Ppa.meas at hm9
          cases hbl : blankH r' with
          | true =>
            rw [hbl] at CB
            obtain ⟨y, t, rfl⟩ : ∃ y t, r' = y :: t := by
              cases r' with
              | nil => cases hbl
              | cons y t => exact ⟨y, t, rfl⟩
            have CS := Kept.mk (fun (W : World) (H : Re B b s st' (false, y :: t) W) => step_e H (by simp))
            dsimp only at CS
            rw [skip_low y t (blankC_low hbl)] at CS
            have HY : Kept (DocX s.size o s.size (f + 1) done st' (false, t)) := ⟨docX_good (by rw [← hF]; exact docF_same (blanksL_of_true hbl).symm) (by unfold Ppa.meas at hmm ⊢; simp at hmm; omega) (by simp at hrR; omega)⟩
            generalize lk (false, y :: t) = C at CL CB
            clear HX hF hbl htx
            go_wp2_with (first | (go_at_call 50; refine (CL.out).mono ?_; rintro e w2 ⟨rfl, H2, hb2⟩; have d1 := H2.c1; dsimp only at d1; rw [hk] at d1; have P2 := Kept.mk H2; have B2 := Kept.mk (BW.out.trans hb2); clear H2 hb2 CL) | (go_at_call 48; refine (CB.out _).mono ?_; rintro e w15 ⟨rfl, rfl⟩) | (go_at_call 51; refine (CS.out _ P2.out).mono ?_; rintro e w6 ⟨rfl, H6, hb6⟩; have P6 := Kept.mk H6; have B6 := Kept.mk (B2.out.trans hb6); clear H6 hb6 CS))
            go_roundg gg
            case measure => omega
            case rel => exact ⟨st', (false, t), done, f + 1, rfl, P6, B6, HY, fun _ => by simp at hg ⊢; omega⟩
          | false =>
            rw [hbl] at CB
            have hbs := blanksL_of_false hbl
            by_cases c0 : lk (false, r') = 0
            · have hnil : r' = [] := by
                by_cases hn : r' = []
                · exact hn
                · have := lk_pos hn htx; omega
              subst hnil
              rw [c0] at CL CB
              have hks : (k : Int) = (s.size : Int) := by simp at hk; omega
              rw [docF_nil hbs] at hF
              cases done
              · rw [if_neg (by simp)] at hF
                injection hF with hF
                subst hF
                clear HX htx hbs hbl c0
                go_wp2_with (first | (go_at_call 50; refine (CL.out).mono ?_; rintro e w2 ⟨rfl, H2, hb2⟩; have d1 := H2.c1; dsimp only at d1; rw [hk] at d1; have P2 := Kept.mk H2; have B2 := Kept.mk (BW.out.trans hb2); clear H2 hb2 CL) | (go_at_call 48; refine (CB.out _).mono ?_; rintro e w15 ⟨rfl, rfl⟩))
                have bx1 := beh_cell d1
                have bx0 := beh_cell P2.out.c0
                refine wp_region_beh (by kernel_rfl) (by kernel_rfl) ?_
                repeat
                  (refine Qw_step (fun K hK => ?_)
                   go_simp
                   first
                     | (refine hK _ ?_; clear hK K)
                     | (apply Exists.intro
                        refine ⟨fun _ => ?_, hK _ ?_⟩
                        (fail)
                        clear hK K))
                refine Qw_nil ?_
                rintro w5 ⟨⟨_, hb5⟩, rfl⟩
                have P5 := Kept.mk (P2.out.below hb5)
                have B5 := Kept.mk (B2.out.trans (hb5.mono P2.out.hB))
                clear hb5 bx0 bx1
                go_wp2_with (first | (go_at_call 52; refine (no_e P5.out).mono ?_; rintro e w6 ⟨rfl, H6, hb6⟩; have P6 := Kept.mk H6; have B6 := Kept.mk (B5.out.trans hb6); clear H6 hb6))
                go_roundg gg
                case measure => omega
                case rel => exact ⟨st', (true, []), false, 0, rfl, P6, B6, ⟨docX_bad⟩, fun e => by cases e⟩
              · rw [if_pos rfl] at hF
                injection hF with hF
                subst hF
                clear HX htx hbs hbl c0
                go_wp2_with (first | (go_at_call 50; refine (CL.out).mono ?_; rintro e w2 ⟨rfl, H2, hb2⟩; have d1 := H2.c1; dsimp only at d1; rw [hk] at d1; have P2 := Kept.mk H2; have B2 := Kept.mk (BW.out.trans hb2); clear H2 hb2 CL) | (go_at_call 48; refine (CB.out _).mono ?_; rintro e w15 ⟨rfl, rfl⟩))
                have bx1 := beh_cell d1
                have bx0 := beh_cell P2.out.c0
                refine wp_region_beh (by kernel_rfl) (by kernel_rfl) ?_
                repeat
                  (refine Qw_step (fun K hK => ?_)
                   go_simp
                   first
                     | (refine hK _ ?_; clear hK K)
                     | (apply Exists.intro
                        refine ⟨fun _ => ?_, hK _ ?_⟩
                        (fail)
                        clear hK K))
                refine Qw_nil ?_
                rintro w5 ⟨⟨_, hb5⟩, rfl⟩
                have P5 := Kept.mk (P2.out.below hb5)
                have B5 := Kept.mk (B2.out.trans (hb5.mono P2.out.hB))
                clear hb5 bx0 bx1
                go_wp2
                refine bodyPost_ret (results_none rfl _ _ _) rfl ?_
                exact ⟨rfl, endD_ok P5.out, B5.out⟩
            · by_cases c60 : lk (false, r') = 60
              · obtain ⟨u, rfl⟩ := lk_cons 60 (by decide) (by decide) 60 rfl c60
                rw [c60] at CL CB
                have CS := Kept.mk (fun (W : World) (H : Re B b s st' (false, 60 :: u) W) => step_e H (by simp))
                dsimp only at CS
                rw [skip_low 60 u (by decide)] at CS
                simp only [List.length_cons] at hg hrR hm9
                have htu := Ppa.texts_low (by decide) htx
                by_cases h63 : u.head? = some 63
                · obtain ⟨v, rfl⟩ := head_cons h63
                  rw [docF_pi hbs] at hF
                  have C1 := Kept.mk (fun W => is_ey (B := B) (b := b) (s := s) (st := st') (t := v) 63 63 rfl (by decide) (by decide) W)
                  have hmv : Ppa.meas st' v ≤ 800000 := by unfold Ppa.meas; simp at hm9; omega
                  have CP := Kept.mk (fun (W : World) (H : Re B b s st' (false, v) W) => rpi_any 0 H hmv)
                  have HN := Kept.mk (fun (W : World) (hW : EndR B b s (Ppa.instrM 0 v st') W) => doc_next (R := s.size) (R2 := v.length) hW hF (fun r1 s1 e => ⟨Nat.le_trans (Ppa.instrM_ok e).2.1 hmv, (Ppa.instrM_ok e).1.length_le⟩) (by simp at hrR; omega))
                  simp only [List.length_cons] at hg
                  clear HX hF htx htu hbs hbl c0 c60 h63 hmm hmv
                  go_wp2_with (first | (go_at_call 50; refine (CL.out).mono ?_; rintro e w2 ⟨rfl, H2, hb2⟩; have d1 := H2.c1; dsimp only at d1; rw [hk] at d1; have P2 := Kept.mk H2; have B2 := Kept.mk (BW.out.trans hb2); clear H2 hb2 CL) | (go_at_call 48; refine (CB.out _).mono ?_; rintro e w15 ⟨rfl, rfl⟩))
                  have bx1 := beh_cell d1
                  have bx0 := beh_cell P2.out.c0
                  refine wp_region_beh (by kernel_rfl) (by kernel_rfl) ?_
                  repeat
                    (refine Qw_step (fun K hK => ?_)
                     go_simp
                     first
                       | (refine hK _ ?_; clear hK K)
                       | (apply Exists.intro
                          refine ⟨fun _ => ?_, hK _ ?_⟩
                          (fail)
                          clear hK K))
                  refine Qw_nil ?_
                  rintro w5 ⟨⟨_, hb5⟩, rfl⟩
                  have P5 := Kept.mk (P2.out.below hb5)
                  have B5 := Kept.mk (B2.out.trans (hb5.mono P2.out.hB))
                  clear hb5 bx0 bx1
                  go_wp2_with (first | (go_at_call 51; refine (CS.out _ P5.out).mono ?_; rintro e w6 ⟨rfl, H6, hb6⟩; have P6 := Kept.mk H6; have B6 := Kept.mk (B5.out.trans hb6); clear H6 hb6 CS) | (go_at_call 53; refine (C1.out _ P6.out).mono ?_; rintro e w7 ⟨rfl, H7, hb7⟩; have P7 := Kept.mk H7; have B7 := Kept.mk (B6.out.trans hb7); clear H7 hb7 C1) | (go_at_call 54; refine (CP.out _ P7.out).mono ?_; rintro e w10 ⟨rfl, H10, hb10⟩; have P10 := Kept.mk H10; have B10 := Kept.mk (B7.out.trans hb10); clear H10 hb10 CP))
                  obtain ⟨st2, σ2, h2a, h2b, h2c⟩ := HN.out _ P10.out
                  have h2k := Kept.mk h2a
                  have h2l := Kept.mk h2b
                  clear h2a h2b
                  go_roundg gg
                  case measure => omega
                  case rel => exact ⟨st2, σ2, done, _, rfl, h2k, B10, h2l, fun e => by have := h2c e; omega⟩
                · have C1 := Kept.mk (fun W => is_en (B := B) (b := b) (s := s) (st := st') 63 63 rfl (by decide) (by decide) h63 W)
                  by_cases h33 : u.head? = some 33
                  · obtain ⟨v, rfl⟩ := head_cons h33
                    rw [docF_bang hbs] at hF
                    have C2 := Kept.mk (fun W => is_ey (B := B) (b := b) (s := s) (st := st') (t := v) 33 33 rfl (by decide) (by decide) W)
                    have C3 := Kept.mk (fun (W : World) (H : Re B b s st' (false, v) W) => must_e ⟨#[45]⟩ (by decide) (by decide) H)
                    rw [show (⟨#[45]⟩ : ByteArray).data.toList = [45] from rfl, mustB_ex] at C3
                    simp only [List.length_cons] at hg hrR hm9
                    cases hmu : Ppa.mustL [45] v with
                    | error r1 =>
                      rw [hmu] at hF C3
                      injection hF with hF
                      subst hF
                      clear HX htx htu hbs hbl c0 c60 h63 h33 hmm hmu
                      go_wp2_with (first | (go_at_call 50; refine (CL.out).mono ?_; rintro e w2 ⟨rfl, H2, hb2⟩; have d1 := H2.c1; dsimp only at d1; rw [hk] at d1; have P2 := Kept.mk H2; have B2 := Kept.mk (BW.out.trans hb2); clear H2 hb2 CL) | (go_at_call 48; refine (CB.out _).mono ?_; rintro e w15 ⟨rfl, rfl⟩))
                      have bx1 := beh_cell d1
                      have bx0 := beh_cell P2.out.c0
                      refine wp_region_beh (by kernel_rfl) (by kernel_rfl) ?_
                      repeat
                        (refine Qw_step (fun K hK => ?_)
                         go_simp
                         first
                           | (refine hK _ ?_; clear hK K)
                           | (apply Exists.intro
                              refine ⟨fun _ => ?_, hK _ ?_⟩
                              (fail)
                              clear hK K))
                      refine Qw_nil ?_
                      rintro w5 ⟨⟨_, hb5⟩, rfl⟩
                      have P5 := Kept.mk (P2.out.below hb5)
                      have B5 := Kept.mk (B2.out.trans (hb5.mono P2.out.hB))
                      clear hb5 bx0 bx1
                      go_wp2_with (first | (go_at_call 51; refine (CS.out _ P5.out).mono ?_; rintro e w6 ⟨rfl, H6, hb6⟩; have P6 := Kept.mk H6; have B6 := Kept.mk (B5.out.trans hb6); clear H6 hb6 CS) | (go_at_call 53; refine (C1.out _ P6.out).mono ?_; rintro e w7 ⟨rfl, H7, hb7⟩; have P7 := Kept.mk H7; have B7 := Kept.mk (B6.out.trans hb7); clear H7 hb7 C1) | (go_at_call 53; refine (C2.out _ P7.out).mono ?_; rintro e w8 ⟨rfl, H8, hb8⟩; have P8 := Kept.mk H8; have B8 := Kept.mk (B7.out.trans hb8); clear H8 hb8 C2) | (go_at_call 55; refine (C3.out _ P8.out).mono ?_; rintro e w9 ⟨rfl, H9, hb9⟩; have c9 := H9.c2; have P9 := Kept.mk H9; have B9 := Kept.mk (B8.out.trans hb9); clear H9 hb9 C3))
                      go_roundg gg
                      case measure => omega
                      case rel => exact ⟨st', (true, r1), done, 0, rfl, P9, B9, ⟨docX_bad⟩, fun e => by cases e⟩
                    | ok r1 =>
                      rw [hmu] at hF C3
                      dsimp only at hF
                      have hl1 := (Ppa.mustL_suf hmu).length_le
                      have hmv : Ppa.meas st' r1 ≤ 800000 := by unfold Ppa.meas; omega
                      have CP := Kept.mk (fun (W : World) (H : Re B b s st' (false, r1) W) => rcomment_any 0 H hmv)
                      have HN := Kept.mk (fun (W : World) (hW : EndR B b s (Ppa.commM 0 r1 st') W) => doc_next (R := s.size) (R2 := r1.length) hW hF (fun r2 s1 e => ⟨Nat.le_trans (Ppa.commM_ok e).2.1 hmv, (Ppa.commM_ok e).1.length_le⟩) (by omega))
                      clear HX hF htx htu hbs hbl c0 c60 h63 h33 hmm hmu hmv
                      go_wp2_with (first | (go_at_call 50; refine (CL.out).mono ?_; rintro e w2 ⟨rfl, H2, hb2⟩; have d1 := H2.c1; dsimp only at d1; rw [hk] at d1; have P2 := Kept.mk H2; have B2 := Kept.mk (BW.out.trans hb2); clear H2 hb2 CL) | (go_at_call 48; refine (CB.out _).mono ?_; rintro e w15 ⟨rfl, rfl⟩))
                      have bx1 := beh_cell d1
                      have bx0 := beh_cell P2.out.c0
                      refine wp_region_beh (by kernel_rfl) (by kernel_rfl) ?_
                      repeat
                        (refine Qw_step (fun K hK => ?_)
                         go_simp
                         first
                           | (refine hK _ ?_; clear hK K)
                           | (apply Exists.intro
                              refine ⟨fun _ => ?_, hK _ ?_⟩
                              (fail)
                              clear hK K))
                      refine Qw_nil ?_
                      rintro w5 ⟨⟨_, hb5⟩, rfl⟩
                      have P5 := Kept.mk (P2.out.below hb5)
                      have B5 := Kept.mk (B2.out.trans (hb5.mono P2.out.hB))
                      clear hb5 bx0 bx1
                      go_wp2_with (first | (go_at_call 51; refine (CS.out _ P5.out).mono ?_; rintro e w6 ⟨rfl, H6, hb6⟩; have P6 := Kept.mk H6; have B6 := Kept.mk (B5.out.trans hb6); clear H6 hb6 CS) | (go_at_call 53; refine (C1.out _ P6.out).mono ?_; rintro e w7 ⟨rfl, H7, hb7⟩; have P7 := Kept.mk H7; have B7 := Kept.mk (B6.out.trans hb7); clear H7 hb7 C1) | (go_at_call 53; refine (C2.out _ P7.out).mono ?_; rintro e w8 ⟨rfl, H8, hb8⟩; have P8 := Kept.mk H8; have B8 := Kept.mk (B7.out.trans hb8); clear H8 hb8 C2) | (go_at_call 55; refine (C3.out _ P8.out).mono ?_; rintro e w9 ⟨rfl, H9, hb9⟩; have c9 := H9.c2; have P9 := Kept.mk H9; have B9 := Kept.mk (B8.out.trans hb9); clear H9 hb9 C3) | (go_at_call 56; refine (CP.out _ P9.out).mono ?_; rintro e w10 ⟨rfl, H10, hb10⟩; have P10 := Kept.mk H10; have B10 := Kept.mk (B9.out.trans hb10); clear H10 hb10 CP))
                      obtain ⟨st2, σ2, h2a, h2b, h2c⟩ := HN.out _ P10.out
                      have h2k := Kept.mk h2a
                      have h2l := Kept.mk h2b
                      clear h2a h2b
                      go_roundg gg
                      case measure => omega
                      case rel => exact ⟨st2, σ2, done, _, rfl, h2k, B10, h2l, fun e => by have := h2c e; omega⟩
                  · have C2 := Kept.mk (fun W => is_en (B := B) (b := b) (s := s) (st := st') 33 33 rfl (by decide) (by decide) h33 W)
                    rw [docF_elem hbs h63 h33] at hF
                    cases done
                    · rw [if_neg (by simp)] at hF
                      cases hel : Ppa.elemF s.size f 0 1 u st' with
                      | none => rw [hel] at hF; cases hF
                      | some oe =>
                        rw [hel] at hF
                        have hF2 : nextD s.size f true oe = some o := by
                          cases oe with
                          | error t => exact hF
                          | ok q => exact hF
                        cases f with
                        | zero => unfold Ppa.elemF at hel; cases hel
                        | succ f =>
                          have hmv : Ppa.meas st' u ≤ 800000 := by unfold Ppa.meas; omega
                          have hfr : (k : Int) = (s.size : Int) - u.length - 1 := by simp at hk; omega
                          have CE := Kept.mk (fun (W : World) (H : Re B b s st' (false, u) W) => relement_any (both_r B b s f).1 0 (k : Int) 1 H hmv (by omega) hfr hel)
                          have HN := Kept.mk (fun (W : World) (hW : EndR B b s oe W) => doc_next (R := s.size) (R2 := u.length) hW hF2 (fun r2 s1 e => by subst e; have hk := (Ppa.kc_all s.size (f + 1)).elem 0 1 u st' r2 s1 hel; exact ⟨Nat.le_trans hk.2.1 hmv, hk.1.length_le⟩) (by omega))
                          clear HX hF hF2 htx htu hbs hbl c0 c60 h63 h33 hmm hmv hfr hel
                          go_wp2_with (first | (go_at_call 50; refine (CL.out).mono ?_; rintro e w2 ⟨rfl, H2, hb2⟩; have d1 := H2.c1; dsimp only at d1; rw [hk] at d1; have P2 := Kept.mk H2; have B2 := Kept.mk (BW.out.trans hb2); clear H2 hb2 CL) | (go_at_call 48; refine (CB.out _).mono ?_; rintro e w15 ⟨rfl, rfl⟩))
                          have bx1 := beh_cell d1
                          have bx0 := beh_cell P2.out.c0
                          refine wp_region_beh (by kernel_rfl) (by kernel_rfl) ?_
                          repeat
                            (refine Qw_step (fun K hK => ?_)
                             go_simp
                             first
                               | (refine hK _ ?_; clear hK K)
                               | (apply Exists.intro
                                  refine ⟨fun _ => ?_, hK _ ?_⟩
                                  (fail)
                                  clear hK K))
                          refine Qw_nil ?_
                          rintro w5 ⟨⟨_, hb5⟩, rfl⟩
                          have P5 := Kept.mk (P2.out.below hb5)
                          have B5 := Kept.mk (B2.out.trans (hb5.mono P2.out.hB))
                          clear hb5 bx0 bx1
                          go_wp2_with (first | (go_at_call 51; refine (CS.out _ P5.out).mono ?_; rintro e w6 ⟨rfl, H6, hb6⟩; have P6 := Kept.mk H6; have B6 := Kept.mk (B5.out.trans hb6); clear H6 hb6 CS) | (go_at_call 53; refine (C1.out _ P6.out).mono ?_; rintro e w7 ⟨rfl, H7, hb7⟩; have P7 := Kept.mk H7; have B7 := Kept.mk (B6.out.trans hb7); clear H7 hb7 C1) | (go_at_call 53; refine (C2.out _ P7.out).mono ?_; rintro e w8 ⟨rfl, H8, hb8⟩; have P8 := Kept.mk H8; have B8 := Kept.mk (B7.out.trans hb8); clear H8 hb8 C2) | (go_at_call 57; refine (CE.out _ P8.out).mono ?_; rintro e w10 ⟨rfl, H10, hb10⟩; have P10 := Kept.mk H10; have B10 := Kept.mk (B8.out.trans hb10); clear H10 hb10 CE))
                          obtain ⟨st2, σ2, h2a, h2b, h2c⟩ := HN.out _ P10.out
                          have h2k := Kept.mk h2a
                          have h2l := Kept.mk h2b
                          clear h2a h2b
                          go_roundg gg
                          case measure => omega
                          case rel => exact ⟨st2, σ2, true, _, rfl, h2k, B10, h2l, fun e => by have := h2c e; omega⟩
                    · rw [if_pos rfl] at hF
                      injection hF with hF
                      subst hF
                      clear HX htx htu hbs hbl c0 c60 h63 h33 hmm
                      go_wp2_with (first | (go_at_call 50; refine (CL.out).mono ?_; rintro e w2 ⟨rfl, H2, hb2⟩; have d1 := H2.c1; dsimp only at d1; rw [hk] at d1; have P2 := Kept.mk H2; have B2 := Kept.mk (BW.out.trans hb2); clear H2 hb2 CL) | (go_at_call 48; refine (CB.out _).mono ?_; rintro e w15 ⟨rfl, rfl⟩))
                      have bx1 := beh_cell d1
                      have bx0 := beh_cell P2.out.c0
                      refine wp_region_beh (by kernel_rfl) (by kernel_rfl) ?_
                      repeat
                        (refine Qw_step (fun K hK => ?_)
                         go_simp
                         first
                           | (refine hK _ ?_; clear hK K)
                           | (apply Exists.intro
                              refine ⟨fun _ => ?_, hK _ ?_⟩
                              (fail)
                              clear hK K))
                      refine Qw_nil ?_
                      rintro w5 ⟨⟨_, hb5⟩, rfl⟩
                      have P5 := Kept.mk (P2.out.below hb5)
                      have B5 := Kept.mk (B2.out.trans (hb5.mono P2.out.hB))
                      clear hb5 bx0 bx1
                      go_wp2_with (first | (go_at_call 51; refine (CS.out _ P5.out).mono ?_; rintro e w6 ⟨rfl, H6, hb6⟩; have P6 := Kept.mk H6; have B6 := Kept.mk (B5.out.trans hb6); clear H6 hb6 CS) | (go_at_call 53; refine (C1.out _ P6.out).mono ?_; rintro e w7 ⟨rfl, H7, hb7⟩; have P7 := Kept.mk H7; have B7 := Kept.mk (B6.out.trans hb7); clear H7 hb7 C1) | (go_at_call 53; refine (C2.out _ P7.out).mono ?_; rintro e w8 ⟨rfl, H8, hb8⟩; have P8 := Kept.mk H8; have B8 := Kept.mk (B7.out.trans hb8); clear H8 hb8 C2) | (go_at_call 52; refine (no_e P8.out).mono ?_; rintro e w9 ⟨rfl, H9, hb9⟩; have P9 := Kept.mk H9; have B9 := Kept.mk (B8.out.trans hb9); clear H9 hb9))
                      go_roundg gg
                      case measure => omega
                      case rel => exact ⟨st', (true, u), true, 0, rfl, P9, B9, ⟨docX_bad⟩, fun e => by cases e⟩
              · have k60 := lk_head 60 (by decide) (by decide) 60 rfl c60
                have hne : r' ≠ [] := by rintro rfl; exact c0 (lk_nil _)
                rw [docF_bad (by rw [hbs]; exact hne) (by rw [hbs]; exact k60), hbs] at hF
                injection hF with hF
                subst hF
                generalize lk (false, r') = C at CL CB c0 c60
                have m0 : ¬ (C : Int) = 0 := by omega
                have m1 : ¬ (C : Int) = 60 := by omega
                have q0 : ((C : Int) == 0) = false := by simpa using m0
                have q1 : ((C : Int) != 60) = true := by simpa using m1
                clear HX htx hbs hbl c0 c60 k60 hne hmm
                go_wp2_with (first | (go_at_call 50; refine (CL.out).mono ?_; rintro e w2 ⟨rfl, H2, hb2⟩; have d1 := H2.c1; dsimp only at d1; rw [hk] at d1; have P2 := Kept.mk H2; have B2 := Kept.mk (BW.out.trans hb2); clear H2 hb2 CL) | (go_at_call 48; refine (CB.out _).mono ?_; rintro e w15 ⟨rfl, rfl⟩))
                have bx1 := beh_cell d1
                have bx0 := beh_cell P2.out.c0
                refine wp_region_beh (by kernel_rfl) (by kernel_rfl) ?_
                repeat
                  (refine Qw_step (fun K hK => ?_)
                   go_simp
                   first
                     | (refine hK _ ?_; clear hK K)
                     | (apply Exists.intro
                        refine ⟨fun _ => ?_, hK _ ?_⟩
                        (fail)
                        clear hK K))
                refine Qw_nil ?_
                rintro w5 ⟨⟨_, hb5⟩, rfl⟩
                have P5 := Kept.mk (P2.out.below hb5)
                have B5 := Kept.mk (B2.out.trans (hb5.mono P2.out.hB))
                clear hb5 bx0 bx1
                go_wp2_with (first | (go_at_call 52; refine (no_e P5.out).mono ?_; rintro e w6 ⟨rfl, H6, hb6⟩; have P6 := Kept.mk H6; have B6 := Kept.mk (B5.out.trans hb6); clear H6 hb6))
                go_roundg gg
                case measure => omega
                case rel => exact ⟨st', (true, r'), done, 0, rfl, P6, B6, ⟨docX_bad⟩, fun e => by cases e⟩
        · have hX : o = .error r' := by rw [if_pos rfl] at hX; exact hX
          subst hX
          clear HX
          go_wp2
          go_end0
          exact ⟨rfl, endD_no HP.out, BW.out⟩
end
end Go.Proofs.YtlemdhfekdiaeaaGreatDoor.Wrd
namespace Go.Proofs.YtlemdhfekdiaeaaGreatDoor.Wrd
open Go Go.RowKit Go.Proofs.YtlemdhfekdiaeaaGreatDoor.Kb Go.Proofs.YtlemdhfekdiaeaaGreatDoor.Wch Go.Proofs.YtlemdhfekdiaeaaGreatDoor.Wps Go.Proofs.YtlemdhfekdiaeaaGreatDoor.Emk Go.PlainAid

theorem nextL_no {r : Ppa.Bs} (h : Pch.okR (Lib.decodeL r) = false) : Pch.nextL r = (0, 0) := by unfold Pch.nextL; rw [if_neg (by rw [h]; simp)]
theorem nextL_yes {r : Ppa.Bs} (h : Pch.okR (Lib.decodeL r) = true) : Pch.nextL r = Lib.decodeL r := by unfold Pch.nextL; rw [if_pos h]
set_option maxRecDepth 100000 in
set_option maxHeartbeats 2000000 in
theorem rbyte_any (s : ByteArray) (w : World) (hs : s.size ≤ 65536) :
    Calls Tryz.prog 46 #[.string s] w fun e w' => e = .returned (.int .i64 (wrongI s.data.toList)) ∧ w = w' := by
  have hT : wrongO (Ppa.wrongF s.size 0 (s.data.toList.drop 0)) = wrongI s.data.toList := by unfold wrongI Ppa.wrongL wrongO; rw [size_len, List.drop_zero]
  generalize wrongI s.data.toList = T at hT
  have HT := Kept.mk hT
  clear hT
  go_enter Tryz.func46, Tryz.ntmps46
  go_wp2
  go_loopg [3, 4, 5] s.size (fun g s3 _ _ wx => ∃ pos : Nat, s3 = .int .i64 (pos : Int) ∧ Kept (wrongO (Ppa.wrongF g pos (s.data.toList.drop pos)) = T) ∧ s.size ≤ pos + g ∧ pos ≤ s.size ∧ w = wx)
  case atStart => exact ⟨0, rfl, HT, by omega, by omega, rfl⟩
  case round =>
    obtain ⟨pos, rfl, HE, hle, hlt, rfl⟩ := hrel
    have p0 : (0 : Int) ≤ (pos : Int) := by omega
    by_cases hp : pos < s.size
    · obtain ⟨g, rfl⟩ : ∃ g, gk = g + 1 := ⟨gk - 1, by omega⟩
      have hne : s.data.toList.drop pos ≠ [] := by
        intro e
        have := congrArg List.length e
        rw [List.length_drop, size_len] at this
        simp at this
        omega
      have p1 : (pos : Int) < (s.size : Int) := by omega
      have CN := Wch.next_any s pos w (by omega) hp
      unfold nextAt at CN
      have hw1 := Lib.decodeL_width (s.data.toList.drop pos)
      have hw4 := Ppa.decodeL_four (s.data.toList.drop pos)
      have hsk : Ppa.skip (s.data.toList.drop pos) = s.data.toList.drop (pos + (Lib.decodeL (s.data.toList.drop pos)).2) := by unfold Ppa.skip; rw [List.drop_drop]
      have h1 := HE.out
      have hgo := wrong_next (f := g) (k := pos) hne
      have hno := wrong_here (f := g) (k := pos) hne
      rw [hsk] at hgo
      have hpos : (Lib.decodeL (s.data.toList.drop pos)).2 ≤ s.size - pos := by
        have := Lib.decodeL_le _ hne
        rw [List.length_drop, size_len] at this
        exact this
      cases hO : Pch.okR (Lib.decodeL (s.data.toList.drop pos)) with
      | false =>
        rw [nextL_no hO] at CN
        rw [hno (by rintro ⟨h, _⟩; rw [hO] at h; cases h)] at h1
        have H1 := Kept.mk h1.symm
        have C := Kept.mk CN
        clear CN h1 hgo hno hsk hw1 hw4 hpos hne HE hO
        go_wp2_with (first | (go_at_call 84; refine C.out.mono ?_; rintro e w1 ⟨rfl, rfl⟩))
        go_ret
        exact ⟨by rw [H1.out]; rfl, rfl⟩
      | true =>
        rw [nextL_yes hO] at CN
        generalize hD : Lib.decodeL (s.data.toList.drop pos) = D at CN hw1 hw4 hgo hno hO hpos
        obtain ⟨c, d⟩ := D
        dsimp only at CN hw1 hw4 hgo hno hpos
        have hd1 : 1 ≤ d := hw1
        have q1 : ¬ (d : Int) = 0 := by omega
        have q2 : ((d : Int) == 0) = false := by simpa using q1
        have C := Kept.mk CN
        cases hC : Pch.charB (c : Int) with
        | false =>
          rw [hno (by rintro ⟨_, h⟩; rw [hC] at h; cases h)] at h1
          have H1 := Kept.mk h1.symm
          have HC := Kept.mk hC
          clear CN h1 hgo hno hsk hw1 hw4 hpos hne HE hO hD hC hd1
          go_wp2_with (first | (go_at_call 84; refine C.out.mono ?_; rintro e w1 ⟨rfl, rfl⟩) | (go_at_call 85; refine (refChar_any _ _).mono ?_; rintro e w2 ⟨rfl, rfl⟩; rw [HC.out]))
          go_ret
          exact ⟨by rw [H1.out]; rfl, rfl⟩
        | true =>
          rw [hgo hC hO] at h1
          have H1 := Kept.mk h1
          have HC := Kept.mk hC
          have h5 : pos + d ≤ s.size := by omega
          have h6 : s.size ≤ pos + d + g := by omega
          have H56 := Kept.mk (And.intro h5 h6)
          have p2 : (pos : Int) + (d : Int) ≤ 65536 := by omega
          have p3 : (0 : Int) ≤ (pos : Int) + (d : Int) := by omega
          clear CN h1 hgo hno hsk hw1 hw4 hpos hne HE hO hD hC hd1 h5 h6
          go_wp2_with (first | (go_at_call 84; refine C.out.mono ?_; rintro e w1 ⟨rfl, rfl⟩) | (go_at_call 85; refine (refChar_any _ _).mono ?_; rintro e w2 ⟨rfl, rfl⟩; rw [HC.out]))
          go_roundg g
          case measure => omega
          case rel => exact ⟨pos + d, by go_num, H1, H56.out.2, H56.out.1, rfl⟩
    · have p1 : ¬ (pos : Int) < (s.size : Int) := by omega
      have h1 := HE.out
      rw [List.drop_eq_nil_of_le (by rw [size_len]; omega), wrong_end] at h1
      have H1 := Kept.mk h1.symm
      clear h1 HE
      go_wp2
      go_ret
      exact ⟨by rw [H1.out]; rfl, rfl⟩
abbrev rdO (s : ByteArray) : Obj := .cells #[.string s, .int .i64 0, .bool false, .slice none 0 0, .slice none 0 0, .int .i64 (-1), .int .i64 (-1)] 74
theorem re_new {B b : Nat} {s : ByteArray} {w : World} (h : w.heap[b]? = some (rdO s)) (hB : B ≤ b) (ht : Pch.textsL s.data.toList = true) (hs : s.size ≤ 65536) : Re B b s Ppa.st0 (false, s.data.toList) w := by
  have hl := (Array.getElem?_eq_some_iff.1 h).1
  refine ⟨(none, 0, .slice none 0 0), ⟨⟨?_, World.ownsRow_nil _ _ _ _, World.ownsRow_nil _ _ _ _⟩, List.suffix_refl _, ht, hB, by omega, hs⟩⟩
  rw [h]
  show _ = some (Obj.cells #[.string s, .int .i64 ((s.size - s.data.toList.length : Nat) : Int), _, _, _, _, _] _ _)
  rw [size_len, Nat.sub_self]
  rfl
/-- what begin hands back -/
def Begun (w : World) (p : Value) (x y : Int) (e : Ending) (w' : World) : Prop := e = .returned (.tuple #[p, .agg #[.int .i64 x, .int .i64 y]]) ∧ Below w.heap.size w w'
set_option maxRecDepth 100000 in
set_option maxHeartbeats 2000000 in
theorem begin_long {s : ByteArray} {w : World} (h : 65536 < s.size) : Calls Tryz.prog 21 #[.string s] w fun e w' => Begun w (.pointer none) 3 0 e w' := by
  have i0 : (65536 : Int) < (s.size : Int) := by omega
  go_enter Tryz.func21, Tryz.ntmps21
  go_wp2
  refine bodyPost_ret (v := .tuple #[.pointer none, .agg #[.int .i64 3, .int .i64 0]]) (by simp [results, Tryz.results21, go_sem, *]) rfl ?_
  exact ⟨rfl, (Below.refl _ _).alloc (Nat.le_refl _) _⟩
set_option maxRecDepth 100000 in
set_option maxHeartbeats 2000000 in
theorem begin_wrong {s : ByteArray} {w : World} {k : Nat} (h : ¬ 65536 < s.size) (hw : Ppa.wrongL s.data.toList = some k) : Calls Tryz.prog 21 #[.string s] w fun e w' => Begun w (.pointer none) 120 (k : Int) e w' := by
  have i0 : ¬ (65536 : Int) < (s.size : Int) := by omega
  have KW : Kept (wrongI s.data.toList = (k : Int)) := ⟨by unfold wrongI; rw [hw]⟩
  have CB := Kept.mk (fun W => rbyte_any s W (by omega))
  have i1 : (0 : Int) ≤ (k : Int) := by omega
  clear h hw
  go_enter Tryz.func21, Tryz.ntmps21
  go_wp2_with (go_at_call 46; refine (CB.out _).mono ?_; rintro e w2 ⟨rfl, rfl⟩; rw [KW.out])
  refine bodyPost_ret (v := .tuple #[.pointer none, .agg #[.int .i64 120, .int .i64 (k : Int)]]) (by simp [results, Tryz.results21, go_sem, *]) rfl ?_
  exact ⟨rfl, (Below.refl _ _).alloc (Nat.le_refl _) _⟩
set_option maxRecDepth 100000 in
set_option maxHeartbeats 2000000 in
theorem begin_ok {s : ByteArray} {w : World} (h : ¬ 65536 < s.size) (hw : Ppa.wrongL s.data.toList = none) : Calls Tryz.prog 21 #[.string s] w fun e w' => Begun w (.pointer (some ⟨w.heap.size + 1, 0, none⟩)) 0 0 e w' ∧ Re w.heap.size (w.heap.size + 1) s Ppa.st0 (false, s.data.toList) w' := by
  have ht := Ppa.wrongL_texts hw
  have hs : s.size ≤ 65536 := by omega
  have i0 : ¬ (65536 : Int) < (s.size : Int) := by omega
  have KW : Kept (wrongI s.data.toList = -1) := ⟨by unfold wrongI; rw [hw]⟩
  have CB := Kept.mk (fun W => rbyte_any s W (by omega))
  have HT := Kept.mk ht
  have HS := Kept.mk hs
  clear h hw ht hs
  go_enter Tryz.func21, Tryz.ntmps21
  go_wp2_with (go_at_call 46; refine (CB.out _).mono ?_; rintro e w2 ⟨rfl, rfl⟩; rw [KW.out])
  refine bodyPost_ret (v := .tuple #[.pointer (some ⟨w.heap.size + 1, 0, none⟩), .agg #[.int .i64 0, .int .i64 0]]) (by simp [results, Tryz.results21, go_sem, *]) rfl ?_
  exact ⟨⟨rfl, ((Below.refl _ _).alloc (Nat.le_refl _) _).alloc (by simp) _⟩, re_new (by rw [show w.heap.size + 1 = (w.alloc (.cells #[.int .i64 0, .int .i64 0] 26)).heap.size by simp]; exact heap_alloc_new _ _) (Nat.le_succ _) HT.out HS.out⟩
section
variable {B b : Nat} {s : ByteArray} {st : Ppa.St} {w : World}
set_option maxRecDepth 100000 in
set_option maxHeartbeats 2000000 in
theorem told_bad {r : Ppa.Bs} (h : Re B b s st (true, r) w) : Calls Tryz.prog 23 #[.pointer (some ⟨b, 0, none⟩)] w fun e w' => Wps.Told B w ([], 130, (s.size : Int) - r.length) e w' := by
  obtain ⟨z, h⟩ := h
  have hb1 : Below w.heap.size w (w.alloc (.cells #[.int .i64 0, .int .i64 0] 26)) := (Below.refl _ _).alloc (Nat.le_refl _) _
  have H1 := h.below hb1
  have V1 := Fv.new w
  have B1 := Kept.mk (hb1.mono h.hB)
  have hBg := h.hB
  have hl := h.len
  dsimp only at hl
  have c1 := H1.c1
  have c2 := H1.c2
  dsimp only at c1 c2
  obtain ⟨k, hk⟩ : ∃ k, s.size - r.length = k := ⟨_, rfl⟩
  rw [hk] at c1
  rw [show (s.size : Int) - r.length = (k : Int) by omega]
  clear hb1 h H1 hl hk
  go_enter Tryz.func23, Tryz.ntmps23
  go_wp2
  generalize (w.alloc (.cells #[.int .i64 0, .int .i64 0] 26)) = W at *
  have V4 : Fv w.heap.size 0 0 W.drew := ⟨V1.blk⟩
  have v0 := V1.c0
  have v1 := V1.c1
  have z0 := V1.unf 0
  have z1 := V1.unf 1
  have e0 := V4.c0
  have e1 := V4.c1
  have y0 := V4.unf 0
  have y1 := V4.unf 1
  go_region
  all_goals
    go_wp2
    refine bodyPost_ret (v := .tuple #[.slice none 0 0, .agg #[.int .i64 130, .int .i64 (k : Int)]]) (by simp [results, Tryz.results23, go_sem, *]) rfl ?_
    exact told_none ((B1.out.drew.setCell (p := ⟨w.heap.size, 0, none⟩) hBg _).setCell (p := ⟨w.heap.size, 1, none⟩) hBg _) rfl
set_option maxRecDepth 100000 in
set_option maxHeartbeats 2000000 in
theorem told_two {r : Ppa.Bs} (h : Re B b s st (false, r) w) (h2 : 0 ≤ st.twice) : Calls Tryz.prog 23 #[.pointer (some ⟨b, 0, none⟩)] w fun e w' => Wps.Told B w ([], 282, st.twice) e w' := by
  obtain ⟨z, h⟩ := h
  have hb1 : Below w.heap.size w (w.alloc (.cells #[.int .i64 0, .int .i64 0] 26)) := (Below.refl _ _).alloc (Nat.le_refl _) _
  have H1 := h.below hb1
  have V1 := Fv.new w
  have B1 := Kept.mk (hb1.mono h.hB)
  have hBg := h.hB
  have hl := h.len
  have c2 := H1.c2
  have c5 := H1.c5
  dsimp only at c2 c5
  clear hb1 h H1 hl
  go_enter Tryz.func23, Tryz.ntmps23
  go_wp2
  generalize (w.alloc (.cells #[.int .i64 0, .int .i64 0] 26)) = W at *
  have V4 : Fv w.heap.size 0 0 W.drew := ⟨V1.blk⟩
  have v0 := V1.c0
  have v1 := V1.c1
  have z0 := V1.unf 0
  have z1 := V1.unf 1
  have e0 := V4.c0
  have e1 := V4.c1
  have y0 := V4.unf 0
  have y1 := V4.unf 1
  go_region
  all_goals
    go_wp2
    refine bodyPost_ret (v := .tuple #[.slice none 0 0, .agg #[.int .i64 282, .int .i64 st.twice]]) (by simp [results, Tryz.results23, go_sem, *]) rfl ?_
    exact told_none ((B1.out.drew.setCell (p := ⟨w.heap.size, 0, none⟩) hBg _).setCell (p := ⟨w.heap.size, 1, none⟩) hBg _) rfl
set_option maxRecDepth 100000 in
set_option maxHeartbeats 2000000 in
theorem told_low {r : Ppa.Bs} (h : Re B b s st (false, r) w) (h2 : ¬ 0 ≤ st.twice) (h3 : 0 ≤ st.deep) : Calls Tryz.prog 23 #[.pointer (some ⟨b, 0, none⟩)] w fun e w' => Wps.Told B w ([], 131, st.deep) e w' := by
  obtain ⟨z, h⟩ := h
  have hb1 : Below w.heap.size w (w.alloc (.cells #[.int .i64 0, .int .i64 0] 26)) := (Below.refl _ _).alloc (Nat.le_refl _) _
  have H1 := h.below hb1
  have V1 := Fv.new w
  have B1 := Kept.mk (hb1.mono h.hB)
  have hBg := h.hB
  have hl := h.len
  have c2 := H1.c2
  have c5 := H1.c5
  have c6 := H1.c6
  dsimp only at c2 c5 c6
  clear hb1 h H1 hl
  go_enter Tryz.func23, Tryz.ntmps23
  go_wp2
  generalize (w.alloc (.cells #[.int .i64 0, .int .i64 0] 26)) = W at *
  have V4 : Fv w.heap.size 0 0 W.drew := ⟨V1.blk⟩
  have v0 := V1.c0
  have v1 := V1.c1
  have z0 := V1.unf 0
  have z1 := V1.unf 1
  have e0 := V4.c0
  have e1 := V4.c1
  have y0 := V4.unf 0
  have y1 := V4.unf 1
  go_region
  all_goals
    go_wp2
    refine bodyPost_ret (v := .tuple #[.slice none 0 0, .agg #[.int .i64 131, .int .i64 st.deep]]) (by simp [results, Tryz.results23, go_sem, *]) rfl ?_
    exact told_none ((B1.out.drew.setCell (p := ⟨w.heap.size, 0, none⟩) hBg _).setCell (p := ⟨w.heap.size, 1, none⟩) hBg _) rfl
set_option maxRecDepth 100000 in
set_option maxHeartbeats 2000000 in
theorem told_much {r : Ppa.Bs} (h : Re B b s st (false, r) w) (h2 : ¬ 0 ≤ st.twice) (h3 : ¬ 0 ≤ st.deep) (h4 : 16384 < st.nodes.length) : Calls Tryz.prog 23 #[.pointer (some ⟨b, 0, none⟩)] w fun e w' => Wps.Told B w ([], 3, 0) e w' := by
  obtain ⟨z, h⟩ := h
  have hb1 : Below w.heap.size w (w.alloc (.cells #[.int .i64 0, .int .i64 0] 26)) := (Below.refl _ _).alloc (Nat.le_refl _) _
  have H1 := h.below hb1
  have V1 := Fv.new w
  have B1 := Kept.mk (hb1.mono h.hB)
  have hBg := h.hB
  have hl := h.len
  have i4 : (16384 : Int) < (st.nodes.length : Int) := by omega
  have c3 := H1.ex.c3
  have c2 := H1.c2
  have c5 := H1.c5
  have c6 := H1.c6
  dsimp only at c2 c5 c6
  clear hb1 h H1 hl h4
  go_enter Tryz.func23, Tryz.ntmps23
  go_wp2
  refine bodyPost_ret (v := .tuple #[.slice none 0 0, .agg #[.int .i64 3, .int .i64 0]]) (by simp [results, Tryz.results23, go_sem, *]) rfl ?_
  exact told_none ((Below.refl _ _).alloc hBg _) rfl
set_option maxRecDepth 100000 in
set_option maxHeartbeats 2000000 in
theorem told_well {r : Ppa.Bs} (h : Re B b s st (false, r) w) (h2 : ¬ 0 ≤ st.twice) (h3 : ¬ 0 ≤ st.deep) (h4 : ¬ 16384 < st.nodes.length) : Calls Tryz.prog 23 #[.pointer (some ⟨b, 0, none⟩)] w fun e w' => Wps.Told B w (st.nodes, 0, 0) e w' := by
  obtain ⟨z, h⟩ := h
  have hb1 : Below w.heap.size w (w.alloc (.cells #[.int .i64 0, .int .i64 0] 26)) := (Below.refl _ _).alloc (Nat.le_refl _) _
  have H1 := h.below hb1
  have V1 := Fv.new w
  have B1 := Kept.mk (hb1.mono h.hB)
  have hBg := h.hB
  have hl := h.len
  have i4 : ¬ (16384 : Int) < (st.nodes.length : Int) := by omega
  obtain ⟨A, c, v⟩ := z
  have c3 := H1.ex.c3
  have HN := Kept.mk H1.ex.nds
  have c2 := H1.c2
  have c5 := H1.c5
  have c6 := H1.c6
  dsimp only at c2 c5 c6
  dsimp only at HN c3
  clear hb1 h H1 hl h4
  go_enter Tryz.func23, Tryz.ntmps23
  go_wp2
  refine bodyPost_ret (v := .tuple #[.slice A st.nodes.length c, .agg #[.int .i64 0, .int .i64 0]]) (by simp [results, Tryz.results23, go_sem, *]) rfl ?_
  exact ⟨B1.out, A, c, rfl, HN.out⟩
theorem told_r {o : Except Ppa.Bs Ppa.St} (h : EndD B b s o w) : Calls Tryz.prog 23 #[.pointer (some ⟨b, 0, none⟩)] w fun e w' => Wps.Told B w (Ppa.toldM s.size o) e w' := by
  cases o with
  | error t =>
    obtain ⟨st, h⟩ := h
    exact told_bad h
  | ok st =>
    obtain ⟨r, h⟩ := h
    by_cases h2 : 0 ≤ st.twice
    · rw [Ppa.told_twice h2]
      exact told_two h h2
    · by_cases h3 : 0 ≤ st.deep
      · rw [Ppa.told_deep h2 h3]
        exact told_low h h2 h3
      · by_cases h4 : 16384 < st.nodes.length
        · rw [Ppa.told_many h2 h3 h4]
          exact told_much h h2 h3 h4
        · rw [Ppa.told_ok h2 h3 h4]
          exact told_well h h2 h3 h4
end
def frE : Except Ppa.Bs (Ppa.Bs × Ppa.St) → Except Ppa.Bs Ppa.St
  | .error r => .error r
  | .ok q => .ok q.2
theorem endD_frag {B b : Nat} {s : ByteArray} {o : Except Ppa.Bs (Ppa.Bs × Ppa.St)} {w : World} (h : EndR B b s o w) : EndD B b s (frE o) w := by
  cases o with
  | error r => exact h
  | ok q => exact ⟨q.1, h⟩
theorem fragM_eq {N F : Nat} {l : Ppa.Bs} {o : Except Ppa.Bs Ppa.St} (h : Ppa.fragM N F l = some o) : ∃ x, Ppa.contF N F (-1) 0 0 l Ppa.st0 = some x ∧ o = (frE x) := by
  unfold Ppa.fragM at h
  split at h
  · cases h
  · rename_i e
    injection h with h
    exact ⟨_, e, h.symm⟩
  · rename_i e
    injection h with h
    exact ⟨_, e, h.symm⟩
theorem told_own {B B' : Nat} {w w2 : World} {m : List Ptr.Nd × Int × Int} {e : Ending} {w' : World} (h : Wps.Told B w2 m e w') (hB : B' ≤ B) (hb : Below B' w w2) : Wps.Told B' w m e w' := ⟨hb.trans (h.1.mono hB), by obtain ⟨A, c, h1, h2⟩ := h.2; exact ⟨A, c, h1, own_mono h2 hB⟩⟩
set_option maxRecDepth 100000 in
set_option maxHeartbeats 2000000 in
theorem rdocument_no {s : ByteArray} {w : World} {x y : Int} (hx : x ≠ 0) (CB : ∀ W, Calls Tryz.prog 21 #[.string s] W fun e w' => Begun W (.pointer none) x y e w') : Calls Tryz.prog 8 #[.string s] w fun e w' => Wps.Told w.heap.size w ([], x, y) e w' := by
  have hb1 : Below w.heap.size w (w.alloc (.cells #[.int .i64 0, .int .i64 0] 26)) := (Below.refl _ _).alloc (Nat.le_refl _) _
  have V1 := Fv.new w
  have B1 := Kept.mk hb1
  have C := Kept.mk CB
  clear hb1 CB
  go_enter Tryz.func8, Tryz.ntmps8
  go_wp2_with (go_at_call 21; refine (C.out _).mono ?_; rintro e w2 ⟨rfl, hb2⟩; have V2 := V1.below hb2; have B2 := Kept.mk (B1.out.trans (hb2.mono (by simp))); have hz2 := hb2.size; clear hb2)
  have hb3 : Below w2.heap.size w2 (w2.alloc (.cells #[.int .i64 x, .int .i64 y] 26)) := (Below.refl _ _).alloc (Nat.le_refl _) _
  have V3 := V2.below hb3
  have X3 : Fv w2.heap.size x y (w2.alloc (.cells #[.int .i64 x, .int .i64 y] 26)) := ⟨heap_alloc_new _ _⟩
  have hle : w.heap.size ≤ w2.heap.size := by simp at hz2; omega
  have B3 := Kept.mk (B2.out.trans (hb3.mono hle))
  generalize (w2.alloc (.cells #[.int .i64 x, .int .i64 y] 26)) = W at *
  have V4 : Fv w.heap.size 0 0 W.drew := ⟨V3.blk⟩
  have X4 : Fv w2.heap.size x y W.drew := ⟨X3.blk⟩
  have v0 := V3.c0
  have v1 := V3.c1
  have z0 := V3.unf 0
  have z1 := V3.unf 1
  have e0 := V4.c0
  have e1 := V4.c1
  have y0 := V4.unf 0
  have y1 := V4.unf 1
  have x0 := X3.c0
  have x1 := X3.c1
  have u0 := X4.c0
  have u1 := X4.c1
  clear hb3 V2 B1 B2 C hz2
  go_region
  all_goals
    go_wp2
    refine bodyPost_ret (v := .tuple #[.slice none 0 0, .agg #[.int .i64 x, .int .i64 y]]) (by simp [results, Tryz.results8, go_sem, *]) rfl ?_
    exact told_none ((B3.out.drew.setCell (p := ⟨w.heap.size, 0, none⟩) (Nat.le_refl _) _).setCell (p := ⟨w.heap.size, 1, none⟩) (Nat.le_refl _) _) rfl
set_option maxRecDepth 100000 in
set_option maxHeartbeats 2000000 in
theorem rdocument_yes {s : ByteArray} {w : World} {F : Nat} {o : Except Ppa.Bs Ppa.St} (h : ¬ 65536 < s.size) (hw : Ppa.wrongL s.data.toList = none) (he : Ppa.docM s.size F s.data.toList = some o) : Calls Tryz.prog 8 #[.string s] w fun e w' => Wps.Told w.heap.size w (Ppa.toldM s.size o) e w' := by
  have hb1 : Below w.heap.size w (w.alloc (.cells #[.int .i64 0, .int .i64 0] 26)) := (Below.refl _ _).alloc (Nat.le_refl _) _
  have V1 := Fv.new w
  have B1 := Kept.mk hb1
  have C : Kept (∀ W, Calls Tryz.prog 21 #[.string s] W fun e w' => ∃ b, Begun W (.pointer (some ⟨b, 0, none⟩)) 0 0 e w' ∧ Re W.heap.size b s Ppa.st0 (false, s.data.toList) w') := ⟨fun W => (begin_ok (w := W) h hw).mono fun e w' h => ⟨_, h⟩⟩
  have CD := Kept.mk (fun (B b : Nat) (W : World) (H : Re B b s Ppa.st0 (false, s.data.toList) W) => rdocument_any H he)
  have CT := Kept.mk (fun (B b : Nat) (W : World) (H : EndD B b s o W) => told_r H)
  generalize Ppa.toldM s.size o = M at CT ⊢
  obtain ⟨L, x, y⟩ := M
  clear hb1 h hw he
  go_enter Tryz.func8, Tryz.ntmps8
  go_wp2_with (first | (go_at_call 21; refine (C.out _).mono ?_; rintro e w2 ⟨b, ⟨rfl, hb2⟩, H2⟩; have V2 := V1.below hb2; have B2 := Kept.mk (B1.out.trans (hb2.mono (by simp))); have hz2 := hb2.size; have P3 := Kept.mk (H2.below ((Below.refl w2.heap.size w2).alloc (Nat.le_refl _) (.cells #[.int .i64 0, .int .i64 0] 26))); have V3 := V2.below ((Below.refl w2.heap.size w2).alloc (Nat.le_refl _) (.cells #[.int .i64 0, .int .i64 0] 26)); have B3 := Kept.mk (B2.out.alloc (by simp at hz2; omega) (.cells #[.int .i64 0, .int .i64 0] 26)); clear hb2 H2 V2) | (go_at_call 22; refine (CD.out _ _ _ P3.out).mono ?_; rintro e w4 ⟨rfl, H4, hb4⟩; have V4 : Fv w.heap.size 0 0 w4 := ⟨(hb4.block _ (by simp)).trans V3.blk⟩; have B4 := Kept.mk (B3.out.trans (hb4.mono (by simp))); have P4 := Kept.mk H4; clear hb4 H4) | (go_at_call 23; refine (CT.out _ _ _ P4.out).mono ?_; rintro e w5 ⟨hb5, A, c, rfl, hn⟩; have B5 := Kept.mk (B4.out.trans (hb5.mono (by simp))); have V5 : Fv w.heap.size 0 0 w5 := ⟨(hb5.block _ (by simp)).trans V4.blk⟩; have N5 := Kept.mk hn; have v0 := V5.c0; have v1 := V5.c1; have z0 := V5.unf 0; have z1 := V5.unf 1; clear hb5 hn))
  refine bodyPost_ret (v := .tuple #[.slice A L.length c, .agg #[.int .i64 x, .int .i64 y]]) (by simp [results, Tryz.results8, go_sem, *]) rfl ?_
  exact ⟨(B5.out.setCell (p := ⟨w.heap.size, 0, none⟩) (Nat.le_refl _) _).setCell (p := ⟨w.heap.size, 1, none⟩) (Nat.le_refl _) _, A, c, rfl, own_mono (V5.nds N5.out _ _) (by simp)⟩
theorem rdocumentT_any (s : ByteArray) (w : World) : Calls Tryz.prog 8 #[.string s] w fun e w' => Wps.Told w.heap.size w (Ppa.documentL s.data.toList) e w' := by
  have hz := size_len s
  unfold Ppa.documentL
  by_cases hl : 65536 < s.size
  · rw [Ppa.allM_long (by rw [hz]; exact hl)]
    exact rdocument_no (by decide) (fun W => begin_long hl)
  · have hnl : ¬ 65536 < s.data.toList.length := by omega
    cases hw : Ppa.wrongL s.data.toList with
    | some k =>
      rw [Ppa.allM_wrong hnl hw]
      exact rdocument_no (by decide) (fun W => begin_wrong hl hw)
    | none =>
      obtain ⟨o, ho⟩ := Ppa.docM_some s.data.toList
      rw [Ppa.allM_told hnl hw ho, hz]
      rw [hz] at ho
      exact rdocument_yes hl hw ho
set_option maxRecDepth 100000 in
set_option maxHeartbeats 2000000 in
theorem rfragment_no {s : ByteArray} {w : World} {x y : Int} (hx : x ≠ 0) (CB : ∀ W, Calls Tryz.prog 21 #[.string s] W fun e w' => Begun W (.pointer none) x y e w') : Calls Tryz.prog 10 #[.string s] w fun e w' => Wps.Told w.heap.size w ([], x, y) e w' := by
  have hb1 : Below w.heap.size w (w.alloc (.cells #[.int .i64 0, .int .i64 0] 26)) := (Below.refl _ _).alloc (Nat.le_refl _) _
  have V1 := Fv.new w
  have B1 := Kept.mk hb1
  have C := Kept.mk CB
  clear hb1 CB
  go_enter Tryz.func10, Tryz.ntmps10
  go_wp2_with (go_at_call 21; refine (C.out _).mono ?_; rintro e w2 ⟨rfl, hb2⟩; have V2 := V1.below hb2; have B2 := Kept.mk (B1.out.trans (hb2.mono (by simp))); have hz2 := hb2.size; clear hb2)
  have hb3 : Below w2.heap.size w2 (w2.alloc (.cells #[.int .i64 x, .int .i64 y] 26)) := (Below.refl _ _).alloc (Nat.le_refl _) _
  have V3 := V2.below hb3
  have X3 : Fv w2.heap.size x y (w2.alloc (.cells #[.int .i64 x, .int .i64 y] 26)) := ⟨heap_alloc_new _ _⟩
  have hle : w.heap.size ≤ w2.heap.size := by simp at hz2; omega
  have B3 := Kept.mk (B2.out.trans (hb3.mono hle))
  generalize (w2.alloc (.cells #[.int .i64 x, .int .i64 y] 26)) = W at *
  have V4 : Fv w.heap.size 0 0 W.drew := ⟨V3.blk⟩
  have X4 : Fv w2.heap.size x y W.drew := ⟨X3.blk⟩
  have v0 := V3.c0
  have v1 := V3.c1
  have z0 := V3.unf 0
  have z1 := V3.unf 1
  have e0 := V4.c0
  have e1 := V4.c1
  have y0 := V4.unf 0
  have y1 := V4.unf 1
  have x0 := X3.c0
  have x1 := X3.c1
  have u0 := X4.c0
  have u1 := X4.c1
  clear hb3 V2 B1 B2 C hz2
  go_region
  all_goals
    go_wp2
    refine bodyPost_ret (v := .tuple #[.slice none 0 0, .agg #[.int .i64 x, .int .i64 y]]) (by simp [results, Tryz.results10, go_sem, *]) rfl ?_
    exact told_none ((B3.out.drew.setCell (p := ⟨w.heap.size, 0, none⟩) (Nat.le_refl _) _).setCell (p := ⟨w.heap.size, 1, none⟩) (Nat.le_refl _) _) rfl
set_option maxRecDepth 100000 in
set_option maxHeartbeats 2000000 in
theorem rfragment_yes {s : ByteArray} {w : World} {F : Nat} {o : Except Ppa.Bs Ppa.St} (h : ¬ 65536 < s.size) (hw : Ppa.wrongL s.data.toList = none) (he : Ppa.fragM s.size F s.data.toList = some o) : Calls Tryz.prog 10 #[.string s] w fun e w' => Wps.Told w.heap.size w (Ppa.toldM s.size o) e w' := by
  have hb1 : Below w.heap.size w (w.alloc (.cells #[.int .i64 0, .int .i64 0] 26)) := (Below.refl _ _).alloc (Nat.le_refl _) _
  have V1 := Fv.new w
  have B1 := Kept.mk hb1
  have C : Kept (∀ W, Calls Tryz.prog 21 #[.string s] W fun e w' => ∃ b, Begun W (.pointer (some ⟨b, 0, none⟩)) 0 0 e w' ∧ Re W.heap.size b s Ppa.st0 (false, s.data.toList) w') := ⟨fun W => (begin_ok (w := W) h hw).mono fun e w' h => ⟨_, h⟩⟩
  obtain ⟨x, he2, rfl⟩ := fragM_eq he
  clear he
  have hsl := size_len s
  have CD := Kept.mk (fun (B b : Nat) (W : World) (H : Re B b s Ppa.st0 (false, s.data.toList) W) => (both_r B b s F).1 (-1) 0 Ppa.st0 s.data.toList W x H (by unfold Ppa.meas; show 0 + 0 + 4 * s.data.toList.length ≤ _; omega) (by omega) (by omega) (by omega) he2)
  have CT := Kept.mk (fun (B b : Nat) (W : World) (H : EndD B b s (frE x) W) => told_r H)
  generalize Ppa.toldM s.size (frE x) = M at CT ⊢
  obtain ⟨L, x, y⟩ := M
  clear hb1 h hw he2
  go_enter Tryz.func10, Tryz.ntmps10
  go_wp2_with (first | (go_at_call 21; refine (C.out _).mono ?_; rintro e w2 ⟨b, ⟨rfl, hb2⟩, H2⟩; have V2 := V1.below hb2; have B2 := Kept.mk (B1.out.trans (hb2.mono (by simp))); have hz2 := hb2.size; have P3 := Kept.mk (H2.below ((Below.refl w2.heap.size w2).alloc (Nat.le_refl _) (.cells #[.int .i64 0, .int .i64 0] 26))); have V3 := V2.below ((Below.refl w2.heap.size w2).alloc (Nat.le_refl _) (.cells #[.int .i64 0, .int .i64 0] 26)); have B3 := Kept.mk (B2.out.alloc (by simp at hz2; omega) (.cells #[.int .i64 0, .int .i64 0] 26)); clear hb2 H2 V2) | (go_at_call 25; refine (CD.out _ _ _ P3.out).mono ?_; rintro e w4 ⟨rfl, H4', hb4⟩; have H4 := endD_frag H4'; clear H4'; have V4 : Fv w.heap.size 0 0 w4 := ⟨(hb4.block _ (by simp)).trans V3.blk⟩; have B4 := Kept.mk (B3.out.trans (hb4.mono (by simp))); have P4 := Kept.mk H4; clear hb4 H4) | (go_at_call 23; refine (CT.out _ _ _ P4.out).mono ?_; rintro e w5 ⟨hb5, A, c, rfl, hn⟩; have B5 := Kept.mk (B4.out.trans (hb5.mono (by simp))); have V5 : Fv w.heap.size 0 0 w5 := ⟨(hb5.block _ (by simp)).trans V4.blk⟩; have N5 := Kept.mk hn; have v0 := V5.c0; have v1 := V5.c1; have z0 := V5.unf 0; have z1 := V5.unf 1; clear hb5 hn))
  refine bodyPost_ret (v := .tuple #[.slice A L.length c, .agg #[.int .i64 x, .int .i64 y]]) (by simp [results, Tryz.results10, go_sem, *]) rfl ?_
  exact ⟨(B5.out.setCell (p := ⟨w.heap.size, 0, none⟩) (Nat.le_refl _) _).setCell (p := ⟨w.heap.size, 1, none⟩) (Nat.le_refl _) _, A, c, rfl, own_mono (V5.nds N5.out _ _) (by simp)⟩
theorem rfragmentT_any (s : ByteArray) (w : World) : Calls Tryz.prog 10 #[.string s] w fun e w' => Wps.Told w.heap.size w (Ppa.fragmentL s.data.toList) e w' := by
  have hz := size_len s
  unfold Ppa.fragmentL
  by_cases hl : 65536 < s.size
  · rw [Ppa.allM_long (by rw [hz]; exact hl)]
    exact rfragment_no (by decide) (fun W => begin_long hl)
  · have hnl : ¬ 65536 < s.data.toList.length := by omega
    cases hw : Ppa.wrongL s.data.toList with
    | some k =>
      rw [Ppa.allM_wrong hnl hw]
      exact rfragment_no (by decide) (fun W => begin_wrong hl hw)
    | none =>
      obtain ⟨o, ho⟩ := Ppa.fragM_some s.data.toList
      rw [Ppa.allM_told hnl hw ho, hz]
      rw [hz] at ho
      exact rfragment_yes hl hw ho
end Go.Proofs.YtlemdhfekdiaeaaGreatDoor.Wrd
