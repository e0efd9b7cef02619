/- The walk over the document's Scan (chapter 22). -/
import Derived.Test.YtfamljigcffngaaGreatDoorLexScanD
import Derived.Test.YtfamljigcffngaaGreatDoorLexSpelt
import Derived.Test.YtfamljigcffngaaGreatDoorCharsWalksD
namespace Go.Proofs.YtfamljigcffngaaGreatDoor.Wlx
open Go Go.RowKit Go.Proofs.YtfamljigcffngaaGreatDoor.Wch

theorem refToken_any (s : ByteArray) (at' : Nat) (w : World) (hs : s.size ≤ 65536) (hat : at' < s.size) (ht : Pch.textsL (s.data.toList.drop at') = true) :
    Calls Tryz.prog 63 #[.string s, .int .i64 at'] w fun e w' => TokR at' (Plx.tokL (s.data.toList.drop at')) e ∧ Below w.heap.size w w' := by
  have hD := drop_at s at' hat
  have htk : Plx.tokL (s.data.toList.drop at') = if Plx.isDig s[at'] = true then Plx.wholeL (s.data.toList.drop at') else if s[at'] = 34 ∨ s[at'] = 39 then Plx.quoL s[at'] (s.data.toList.drop (at' + 1)) else Plx.wordL s[at'] (s.data.toList.drop at') := by
    rw [hD, Plx.tokL_cons]
  rw [htk]
  by_cases hd : Plx.isDig s[at'] = true
  · rw [if_pos hd]
    have h2 := hd
    rw [Plx.isDig_dgt, Pdg.dgt_iff] at h2
    refine rtok_dig s at' w hs hat ht (by omega) (by omega) ?_
    rw [hD]
    unfold Plx.digN
    rw [List.takeWhile_cons_of_pos hd]
    simp
  rw [if_neg hd]
  have hnd : ¬ (48 ≤ s[at'].toNat ∧ s[at'].toNat ≤ 57) := fun h => hd (by rw [Plx.isDig_dgt, Pdg.dgt_iff]; exact h)
  have e34 : ((s[at'].toNat : Int) == 34) = decide (s[at'] = 34) := beq_u8 s[at'] 34
  have e39 : ((s[at'].toNat : Int) == 39) = decide (s[at'] = 39) := beq_u8 s[at'] 39
  have e36 : ((s[at'].toNat : Int) == 36) = decide (s[at'] = 36) := beq_u8 s[at'] 36
  by_cases h34 : s[at'] = 34
  · rw [if_pos (.inl h34)]
    exact rtok_q0 s at' w hs hat (by rw [h34]; decide) (by rw [e34, decide_eq_true h34])
  by_cases h39 : s[at'] = 39
  · rw [if_pos (.inr h39)]
    exact rtok_q1 s at' w hs hat (by rw [h39]; decide) (by rw [e34, decide_eq_false h34]) (by rw [e39, decide_eq_true h39])
  rw [if_neg (by intro h; rcases h with h | h; exact h34 h; exact h39 h)]
  rw [decide_eq_false h34] at e34
  rw [decide_eq_false h39] at e39
  unfold Plx.wordL Plx.aheadN Plx.kindN
  by_cases h36 : s[at'] = 36
  · rw [if_pos h36, if_pos h36]
    rw [decide_eq_true h36] at e36
    refine rtok_var s at' w hs hat ?_ (by rw [h36]; decide) e34 e39 e36
    rw [hD] at ht
    exact Plx.texts_low _ _ (by rw [h36]; decide) ht
  · rw [if_neg h36, if_neg h36]
    rw [decide_eq_false h36] at e36
    by_cases h48 : 48 ≤ s[at'].toNat
    · exact rtok_high s at' w hs hat ht (by omega) (by omega) e34 e39 e36
    · exact rtok_low s at' w hs hat ht (by omega) e34 e39 e36
theorem scanG_blank (f a : Nat) (c : UInt8) (r : List UInt8) (h : Plx.blB c = true) : Plx.scanG (f + 1) a (c :: r) = Plx.scanG (f + 1) (a + 1) r := by
  have ht : Plx.trimB (c :: r) = Plx.trimB r := by rw [Plx.trimB_eq, Plx.trimB_eq, List.dropWhile_cons, if_pos h]
  have hl := Plx.trimB_le r
  have e : a + ((c :: r).length - (Plx.trimB r).length) = a + 1 + (r.length - (Plx.trimB r).length) := by simp only [List.length_cons]; omega
  rw [Plx.scanG, Plx.scanG, ht, e]
theorem blB_blankC (c : UInt8) : Plx.blB c = Pch.blankC c := by
  unfold Plx.blB Pch.blankC
  simp only [List.contains_cons, List.contains_nil, Bool.or_false]
  rw [Bool.eq_iff_iff]
  simp only [Bool.or_eq_true, beq_iff_eq]
  constructor
  · rintro (h | h | h | h) <;> simp [h]
  · rintro (((h | h) | h) | h) <;> simp [h]
theorem refBlank_one (s : ByteArray) (k : Nat) (w : World) (h : k < s.size) : Calls Tryz.prog 61 #[.string (s.extract k (k + 1))] w fun e w' => e = .returned (.bool (Plx.blB s[k])) ∧ w = w' := by
  have h1 := refBlank_any (s.extract k (k + 1)) w (by rw [ByteArray.size_extract]; omega)
  rw [Lib.extract_data, drop_at s k h, Nat.add_sub_cancel_left] at h1
  simpa [Pch.blankL, blB_blankC] using h1
theorem isCom_cut (s : ByteArray) (k : Nat) (h : k < s.size) : Plx.isCom (s.data.toList.drop k) = (decide (k + 1 < s.size) && ((s.extract k (k + 2)).toList == [40, 58])) := by
  unfold Plx.isCom
  by_cases h2 : k + 1 < s.size
  · rw [decide_eq_true h2, Bool.true_and, two_bytes s k h2, drop_two s k h2, Plx.hp2, Bool.eq_iff_iff]
    simp only [Bool.and_eq_true, decide_eq_true_eq, beq_iff_eq, List.cons.injEq, and_true]
    exact ⟨fun h => ⟨h.1.symm, h.2.symm⟩, fun h => ⟨h.1.symm, h.2.symm⟩⟩
  · rw [decide_eq_false h2, Bool.false_and, drop_at s k h, List.drop_eq_nil_of_le (by rw [size_len]; omega)]
    simp [Lib.hasPrefix, List.isPrefixOf]
theorem com_texts (l : List UInt8) (n : Nat) (h : Pch.textsL l = true) (hc : Plx.com 0 l = some n) : Pch.textsL (l.drop n) = true :=
  Plx.low_behind l n 41 (by have := Plx.com_le _ _ _ hc; omega) (Plx.com_last _ _ _ hc) (by decide) h
set_option maxRecDepth 100000 in
set_option maxHeartbeats 4000000 in
theorem refScan_any (s : ByteArray) (w : World) (hs0 : s.size ≤ 100000) :
    Calls Tryz.prog 21 #[.string s] w (Scanned w (Plx.scanL s.data.toList)) := by
  generalize hR : Plx.scanL s.data.toList = R
  unfold Plx.scanL at hR
  rw [size_len] at hR
  by_cases hbig : 65536 < s.size
  · have hb1 : (65536 : Int) < (s.size : Int) := by omega
    rw [if_pos hbig] at hR
    have HR := Kept.mk hR
    clear hR
    go_enter Tryz.func21, Tryz.ntmps21
    go_wp2
    refine bodyPost_ret (v := .tuple #[.slice none 0 0, .agg #[.int .i64 (3 : Nat), .int .i64 (0 : Nat)]]) (by simp [results, Tryz.results21, go_sem]) rfl ?_
    rw [← HR.out]
    exact Scanned.err ((Below.refl _ _).alloc (Nat.le_refl _) _)
  have hb1 : ¬ (65536 : Int) < (s.size : Int) := by omega
  have hb2 : s.size ≤ 65536 := by omega
  rw [if_neg hbig] at hR
  have HL := Kept.mk (size_len s)
  have HR0 := Kept.mk hR
  clear hR
  go_enter Tryz.func21, Tryz.ntmps21
  go_wp2_with (fail)
  go_loop [4, 5, 6] (fun i _ _ => ∃ pos : Nat, pos ≤ s.size ∧ i = .int .i64 pos ∧ Hid (Plx.wrongR pos (Pch.runes (s.data.toList.drop pos)) = Plx.wrongR 0 (Pch.runes s.data.toList))) (fun i _ _ => s.size - (intOf i).toNat)
  case atStart => exact ⟨0, by omega, rfl, rfl⟩
  case round =>
    obtain ⟨pos, hp, rfl, H⟩ := hrel
    have j0 : (0 : Int) ≤ (pos : Int) := by omega
    by_cases hlt : pos < s.size
    · have h := H.out
      rw [runes_at s pos hlt] at h
      have hwd := Lib.width_pos s pos
      have hft := decode_fits s pos hlt
      have cN := fun wx => next_any s pos wx (by omega) hlt
      rw [nextAt_if] at cN
      generalize hD : Utf8.decode s pos = D at h cN hwd hft
      obtain ⟨Rn, K⟩ := D
      simp only at h cN hwd hft
      cases ho : Pch.okR (Rn, K) with
      | false =>
        rw [ho] at cN
        simp only [Bool.false_eq_true, if_false] at cN
        have hx : Kept (R = .error (120, pos)) := ⟨by
          rw [← HR0.out, ← h, Plx.wrongR, ho]
          rfl⟩
        have CN := Kept.mk cN
        clear h cN H hD ho
        go_wp2_with (go_at_call 59; refine (CN.out _).mono ?_; rintro e w' ⟨rfl, rfl⟩)
        refine bodyPost_ret (v := .tuple #[.slice none 0 0, .agg #[.int .i64 (120 : Nat), .int .i64 pos]]) (by simp [results, Tryz.results21, go_sem]) rfl ?_
        rw [hx.out]
        exact Scanned.err ((Below.refl _ _).alloc (Nat.le_refl _) _)
      | true =>
        rw [ho] at cN
        simp only [if_true] at cN
        have hz : ((K : Int) == 0) = false := by simp; omega
        have cC := fun wx => refChar_any (Rn : Int) wx
        cases hc : Pch.charB (Rn : Int) with
        | false =>
          rw [hc] at cC
          have hx : Kept (R = .error (120, pos)) := ⟨by
            rw [← HR0.out, ← h, Plx.wrongR, ho, hc]
            rfl⟩
          have CN := Kept.mk cN
          have CC := Kept.mk cC
          clear h cN H hD ho cC hc
          go_wp2_with (first | (go_at_call 59; refine (CN.out _).mono ?_; rintro e w' ⟨rfl, rfl⟩) | (go_at_call 60; refine (CC.out _).mono ?_; rintro e w' ⟨rfl, rfl⟩))
          refine bodyPost_ret (v := .tuple #[.slice none 0 0, .agg #[.int .i64 (120 : Nat), .int .i64 pos]]) (by simp [results, Tryz.results21, go_sem]) rfl ?_
          rw [hx.out]
          exact Scanned.err ((Below.refl _ _).alloc (Nat.le_refl _) _)
        | true =>
          rw [hc] at cC
          rw [Plx.wrongR, ho, hc] at h
          have H2 := Lib.hid h
          have CN := Kept.mk cN
          have CC := Kept.mk cC
          clear h cN H hD ho cC hc
          go_wp2_with (first | (go_at_call 59; refine (CN.out _).mono ?_; rintro e w' ⟨rfl, rfl⟩) | (go_at_call 60; refine (CC.out _).mono ?_; rintro e w' ⟨rfl, rfl⟩))
          go_round
          case rel => exact ⟨pos + K, by omega, by go_num, H2.out⟩
          case measure => simp [intOf]; omega
    · have h := H.out
      rw [runes_end s pos hlt] at h
      have hwn : Plx.wrongR 0 (Pch.runes s.data.toList) = none := h.symm
      have htx := (Plx.wrong_texts _).1 hwn
      have hR := HR0.out
      rw [hwn] at hR
      have HR := Kept.mk hR
      have HTX := Kept.mk htx
      clear h H hwn htx hR
      go_wp2_with (fail)
      go_loopw [7, 8, 9, 10, 11, 12] (fun v i _ _ _ _ wx => ∃ (k f : Nat) (acc : List (Plx.Tok × Nat)), k ≤ s.size ∧ i = .int .i64 k ∧ Base w wx ∧ wx.ownsRow (w.heap.size + 1) 36 4 v acc.length (toksC acc) ∧ acc.length ≤ k ∧ s.size < f + k ∧ Kept (Pch.textsL (s.data.toList.drop k) = true) ∧ Hid (Plx.pre acc (Plx.scanG f k (s.data.toList.drop k)) = R)) (fun _ i _ _ _ _ _ => s.size - (intOf i).toNat)
      case atStart => exact ⟨0, s.size + 1, [], by omega, rfl, Below.refl _ _, World.ownsRow_nil _ _ _ _, by simp, by omega, HTX, by show _ = _; rw [Plx.pre_nil, List.drop_zero, ← HR.out]⟩
      case round =>
        obtain ⟨k, f, acc, hk, rfl, hB, hown, hal, hfu, HT, H⟩ := hrel
        obtain ⟨f, rfl⟩ : ∃ g, f = g + 1 := ⟨f - 1, by omega⟩
        obtain ⟨i0', hi', hz0', hz1', hz2'⟩ := info_parts infoT
        have HB := Kept.mk hB
        have HO := Kept.mk hown
        have i0 : (0 : Int) ≤ (k : Int) := by omega
        have i1 : (k : Int) ≤ (s.size : Int) := by omega
        have z2 : w.heap.size + 1 ≤ wr.heap.size := by have := hB.size; simpa using this
        clear hB hown
        by_cases hlt : k < s.size
        · have i2 : (k : Int) < (s.size : Int) := by omega
          have i3 : (k : Int) + 1 ≤ (s.size : Int) := by omega
          have i4 : ((k : Int) + 1).toNat = k + 1 := by omega
          have i6 : ((k : Int) + 2).toNat = k + 2 := by omega
          have h := H.out
          have cB := fun wx => refBlank_one s k wx hlt
          cases hbl : Plx.blB s[k] with
          | true =>
            rw [hbl] at cB
            have htx := HT.out
            rw [drop_at s k hlt] at h htx
            rw [scanG_blank _ _ _ _ hbl] at h
            have hx := Plx.texts_low _ _ (Plx.blB_low hbl) htx
            have HX := Kept.mk hx
            have HH := Lib.hid h
            have CB := Kept.mk cB
            clear h H cB hbl htx hx HT
            go_wp2_with (fail)
            refine (CB.out _).mono ?_; rintro e w' ⟨rfl, rfl⟩
            go_wp2
            go_roundw
            case rel => exact ⟨k + 1, f + 1, acc, by omega, by go_num, HB.out, HO.out, by omega, by omega, HX, HH.out⟩
            case measure => simp [intOf]; omega
          | false =>
            rw [hbl] at cB
            have htr : Plx.trimB (s.data.toList.drop k) = s.data.toList.drop k := by rw [drop_at s k hlt]; exact Plx.trim_head _ _ hbl
            have hne : s.data.toList.drop k ≠ [] := by rw [drop_at s k hlt]; simp
            have hcut := isCom_cut s k hlt
            have CB := Kept.mk cB
            clear cB hbl
            cases hc0 : Plx.isCom (s.data.toList.drop k) with
            | true =>
              rw [Plx.scanG_com _ _ _ (by rw [htr]; exact hne) (by rw [htr]; exact hc0), htr, Nat.sub_self, Nat.add_zero] at h
              rw [hc0] at hcut
              have hcut2 := hcut.symm
              rw [Bool.and_eq_true, decide_eq_true_eq] at hcut2
              obtain ⟨hk2, q⟩ := hcut2
              have i5 : (k : Int) + 1 < (s.size : Int) := by omega
              have i7 : (k : Int) + 2 ≤ (s.size : Int) := by omega
              have cC := fun wx => refComment_any s k wx (by omega) hk
              unfold comAt at cC
              cases hcm : Plx.com 0 (s.data.toList.drop k) with
              | none =>
                rw [hcm] at h cC
                have HX : Kept (R = .error (220, k)) := ⟨h.symm⟩
                have CC := Kept.mk cC
                clear h cC H hc0 hcut hcm htr hne hk2
                go_wp2_with (fail)
                refine (CB.out _).mono ?_; rintro e w' ⟨rfl, rfl⟩
                go_wp2_with (fail)
                refine (CC.out _).mono ?_; rintro e w' ⟨rfl, rfl⟩
                obtain ⟨c0, c1, f0, f1⟩ := base_cells HB.out
                have hz := HB.out.lt
                go_wp2
                refine bodyPost_ret (v := .tuple #[.slice none 0 0, .agg #[.int .i64 (220 : Nat), .int .i64 k]]) (by simp [results, Tryz.results21, go_sem, c0, c1]) rfl ?_
                rw [HX.out]
                exact Scanned.err (set2 HB.out.below)
              | some n =>
                rw [hcm] at h cC
                have hn := Plx.com_le _ _ _ hcm
                rw [List.length_drop, HL.out] at hn
                have hx := com_texts _ _ HT.out hcm
                rw [List.drop_drop] at hx
                dsimp only at h cC
                rw [List.drop_drop] at h
                obtain ⟨d, hd⟩ : ∃ d, k + n = d := ⟨_, rfl⟩
                rw [hd] at h hx cC
                have d0 : (0 : Int) ≤ (d : Int) := by omega
                have HX := Kept.mk hx
                have HH := Lib.hid h
                have CC := Kept.mk cC
                clear h cC H hc0 hcut hcm htr hne hk2 hx HT
                go_wp2_with (fail)
                refine (CB.out _).mono ?_; rintro e w' ⟨rfl, rfl⟩
                go_wp2_with (fail)
                refine (CC.out _).mono ?_; rintro e w' ⟨rfl, rfl⟩
                go_wp2
                go_roundw
                case rel => exact ⟨d, f, acc, by omega, rfl, HB.out, HO.out, by omega, by omega, HX, HH.out⟩
                case measure => simp [intOf]; omega
            | false =>
              rw [Plx.scanG_tok _ _ _ (by rw [htr]; exact hne) (by rw [htr]; exact hc0), htr, Nat.sub_self, Nat.add_zero] at h
              have cT := fun wx => refToken_any s k wx hb2 hlt HT.out
              rw [hc0] at hcut
              have hsp : (k + 1 < s.size ∧ ((s.extract k (k + 2)).toList == [40, 58]) = false) ∨ ¬ k + 1 < s.size := by
                by_cases hk2 : k + 1 < s.size
                · rw [decide_eq_true hk2, Bool.true_and] at hcut
                  exact .inl ⟨hk2, hcut.symm⟩
                · exact .inr hk2
              cases htk : Plx.tokL (s.data.toList.drop k) with
              | error er =>
                rw [htk] at h cT
                have her := Plx.tokL_err _ hne _ htk
                have e2 : ((er : Int) != 0) = true := by simp; omega
                have HX : Kept (R = .error (er, k)) := ⟨h.symm⟩
                unfold TokR at cT
                dsimp only at cT
                have CT := Kept.mk cT
                clear h cT H hc0 hcut htr hne htk her HT
                rcases hsp with ⟨hk2, q⟩ | hk2
                · have i5 : (k : Int) + 1 < (s.size : Int) := by omega
                  have i7 : (k : Int) + 2 ≤ (s.size : Int) := by omega
                  go_wp2_with (fail)
                  refine (CB.out _).mono ?_; rintro e w' ⟨rfl, rfl⟩
                  go_wp2_with (fail)
                  refine (CT.out _).mono ?_; rintro e w3 ⟨⟨kk, x, n, m, rfl⟩, hb3⟩
                  have G3 := Kept.mk (HB.out.then_ hb3)
                  have G4 := Kept.mk (G3.out.alloc (.cells #[.int .u8 kk, .string x, .int .i64 n, .int .i64 0] 36))
                  obtain ⟨c0, c1, f0, f1⟩ := base_cells G4.out
                  have hz := G3.out.lt
                  clear hb3
                  go_wp2_with (fail)
                  refine bodyPost_ret (v := .tuple #[.slice none 0 0, .agg #[.int .i64 er, .int .i64 k]]) (by simp [results, Tryz.results21, go_sem, c0, c1]) rfl ?_
                  rw [HX.out]
                  exact Scanned.err (set2 G4.out.below)
                · have i5 : ¬ (k : Int) + 1 < (s.size : Int) := by omega
                  go_wp2_with (fail)
                  refine (CB.out _).mono ?_; rintro e w' ⟨rfl, rfl⟩
                  go_wp2_with (fail)
                  refine (CT.out _).mono ?_; rintro e w3 ⟨⟨kk, x, n, m, rfl⟩, hb3⟩
                  have G3 := Kept.mk (HB.out.then_ hb3)
                  have G4 := Kept.mk (G3.out.alloc (.cells #[.int .u8 kk, .string x, .int .i64 n, .int .i64 0] 36))
                  obtain ⟨c0, c1, f0, f1⟩ := base_cells G4.out
                  have hz := G3.out.lt
                  clear hb3
                  go_wp2_with (fail)
                  refine bodyPost_ret (v := .tuple #[.slice none 0 0, .agg #[.int .i64 er, .int .i64 k]]) (by simp [results, Tryz.results21, go_sem, c0, c1]) rfl ?_
                  rw [HX.out]
                  exact Scanned.err (set2 G4.out.below)
              | ok x =>
                rw [htk] at h cT
                have hxl := Plx.tokL_le _ _ htk
                rw [List.length_drop, HL.out] at hxl
                have hx := Plx.tok_behind _ _ HT.out htk
                rw [List.drop_drop] at hx
                dsimp only at h
                rw [Plx.pre_pre, List.drop_drop] at h
                unfold TokR at cT
                dsimp only at cT
                obtain ⟨hx1, hx2, _⟩ := hxl
                obtain ⟨y, hy⟩ : ∃ y : ByteArray, y = ⟨x.1.2.1.toArray⟩ := ⟨_, rfl⟩
                obtain ⟨d, hd⟩ : ∃ d, k + x.2 = d := ⟨_, rfl⟩
                rw [← hy, hd] at cT
                rw [hd] at h hx
                have d0 : (0 : Int) ≤ (d : Int) := by omega
                have d1 : k < d ∧ d ≤ s.size := by omega
                have HY := Kept.mk hy
                have HX := Lib.hid h
                have HXT := Kept.mk hx
                have CT := Kept.mk cT
                clear h cT H hc0 hcut htr hne htk hx hy hd hx1 hx2 HT
                rcases hsp with ⟨hk2, q⟩ | hk2
                · have i5 : (k : Int) + 1 < (s.size : Int) := by omega
                  have i7 : (k : Int) + 2 ≤ (s.size : Int) := by omega
                  go_wp2_with (fail)
                  refine (CB.out _).mono ?_; rintro e w' ⟨rfl, rfl⟩
                  go_wp2_with (fail)
                  refine (CT.out _).mono ?_; rintro e w3 ⟨rfl, hb3⟩
                  have G3 := Kept.mk (HB.out.then_ hb3)
                  have O3 := Kept.mk (Base.own HO.out hb3)
                  have hz := G3.out.lt
                  clear hb3
                  go_wp2_with (at_builtin; refine wpList_append_own _ rfl (.tmp 86) (.tmp 88) 23 rfl (w.heap.size + 1) 36 i0' (.agg #[.int .u8 0, .string ⟨#[]⟩, .int .i64 0, .int .i64 0]) 4 40 Tryz.underlying23 hi' hz0' hz1' hz2' rfl (by decide) _ acc.length (toksC acc) rfl ((O3.out.alloc _).alloc _) ⟨w3.heap.size + 1, 0, none⟩ 1 1 [.int .u8 x.1.1, .string y, .int .i64 x.1.2.2, .int .i64 k] rfl rfl (news_alloc2 _ _ _ _ _) (by intro u hu; simp at hu; rcases hu with rfl | rfl | rfl | rfl <;> rfl) (by unfold maxLen; omega) (by omega) (by simp; omega) ?_; intro v5 w5 hown5 hgrow5 _; have hB5 : Base w w5 := Below.grown ((G3.out.alloc _).alloc _) hgrow5 (by simp; omega) (fun _ hj => (O3.out.lt _ hj).1); have HB5 := Kept.mk hB5; have HO5 := Kept.mk hown5; clear hB5 hown5 hgrow5)
                  go_roundw
                  case rel =>
                    refine ⟨d, f, acc ++ [(x.1, k)], by omega, rfl, HB5.out, ?_, by rw [List.length_append, List.length_singleton]; omega, by omega, HXT, HX.out⟩
                    rw [List.length_append, toksC_append]
                    have := HO5.out
                    rw [HY.out] at this
                    exact this
                  case measure => simp [intOf]; omega
                · have i5 : ¬ (k : Int) + 1 < (s.size : Int) := by omega
                  go_wp2_with (fail)
                  refine (CB.out _).mono ?_; rintro e w' ⟨rfl, rfl⟩
                  go_wp2_with (fail)
                  refine (CT.out _).mono ?_; rintro e w3 ⟨rfl, hb3⟩
                  have G3 := Kept.mk (HB.out.then_ hb3)
                  have O3 := Kept.mk (Base.own HO.out hb3)
                  have hz := G3.out.lt
                  clear hb3
                  go_wp2_with (at_builtin; refine wpList_append_own _ rfl (.tmp 86) (.tmp 88) 23 rfl (w.heap.size + 1) 36 i0' (.agg #[.int .u8 0, .string ⟨#[]⟩, .int .i64 0, .int .i64 0]) 4 40 Tryz.underlying23 hi' hz0' hz1' hz2' rfl (by decide) _ acc.length (toksC acc) rfl ((O3.out.alloc _).alloc _) ⟨w3.heap.size + 1, 0, none⟩ 1 1 [.int .u8 x.1.1, .string y, .int .i64 x.1.2.2, .int .i64 k] rfl rfl (news_alloc2 _ _ _ _ _) (by intro u hu; simp at hu; rcases hu with rfl | rfl | rfl | rfl <;> rfl) (by unfold maxLen; omega) (by omega) (by simp; omega) ?_; intro v5 w5 hown5 hgrow5 _; have hB5 : Base w w5 := Below.grown ((G3.out.alloc _).alloc _) hgrow5 (by simp; omega) (fun _ hj => (O3.out.lt _ hj).1); have HB5 := Kept.mk hB5; have HO5 := Kept.mk hown5; clear hB5 hown5 hgrow5)
                  go_roundw
                  case rel =>
                    refine ⟨d, f, acc ++ [(x.1, k)], by omega, rfl, HB5.out, ?_, by rw [List.length_append, List.length_singleton]; omega, by omega, HXT, HX.out⟩
                    rw [List.length_append, toksC_append]
                    have := HO5.out
                    rw [HY.out] at this
                    exact this
                  case measure => simp [intOf]; omega
        · have i2 : ¬ (k : Int) < (s.size : Int) := by omega
          have hkl : k = s.size := by omega
          have HX : Kept (R = .ok (acc ++ [((0, [], 0), k)])) := ⟨by
            rw [← H.out, Plx.scanG_end _ _ _ (by rw [List.drop_eq_nil_of_le (by rw [HL.out]; omega)]; rfl), List.length_drop, HL.out, hkl, Nat.sub_self]
            rfl⟩
          clear H hkl
          go_wp2_with (at_builtin; refine wpList_append_own _ rfl (.tmp 91) (.tmp 94) 23 rfl (w.heap.size + 1) 36 i0' (.agg #[.int .u8 0, .string ⟨#[]⟩, .int .i64 0, .int .i64 0]) 4 40 Tryz.underlying23 hi' hz0' hz1' hz2' rfl (by decide) _ acc.length (toksC acc) rfl (HO.out.alloc _) ⟨wr.heap.size, 0, none⟩ 1 1 (tokC ((0, [], 0), k)) rfl rfl (World.news_of_block (heap_alloc_new _ _)) (by intro u hu; simp [tokC] at hu; rcases hu with rfl | rfl | rfl | rfl <;> rfl) (by unfold maxLen; omega) (by omega) (by simp; omega) ?_; intro v3 w3 hown3 hgrow3 _; have hB3 : Base w w3 := Below.grown (HB.out.alloc _) hgrow3 (by simp; omega) (fun _ hj => (HO.out.lt _ hj).1); obtain ⟨c0, c1, f0, f1⟩ := base_cells hB3; have hz := hB3.lt; have HB3 := Kept.mk hB3; have HO3 := Kept.mk hown3; clear hB3 hown3 hgrow3)
          refine bodyPost_ret (v := .tuple #[v3, .agg #[.int .i64 0, .int .i64 0]]) (by simp [results, Tryz.results21, go_sem, c0, c1]) rfl ?_
          rw [HX.out]
          have hO : w3.ownsRow (w.heap.size + 1) 36 4 v3 (acc ++ [((0, [], 0), k)]).length (toksC (acc ++ [((0, [], 0), k)])) := by
            rw [List.length_append, toksC_append]
            exact HO3.out
          exact Scanned.ok (set2 HB3.out.below) (own_mono (own_set (own_set hO (by omega)) (by omega)) (by omega))
end Go.Proofs.YtfamljigcffngaaGreatDoor.Wlx
