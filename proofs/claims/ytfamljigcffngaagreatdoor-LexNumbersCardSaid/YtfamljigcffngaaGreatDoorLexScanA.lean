/- The walks over the document's name, comment, quoted (chapter 22). -/
import Derived.Test.YtfamljigcffngaaGreatDoorLexAwake
import Derived.Test.YtfamljigcffngaaGreatDoorLexScanP
import Derived.Laws.IdiomStrings
import Derived.Laws.BytesArg
import Derived.Laws.OwnMore
namespace Go.Proofs.YtfamljigcffngaaGreatDoor.Wlx
open Go Go.RowKit Go.Proofs.YtfamljigcffngaaGreatDoor.Wch

set_option maxHeartbeats 1000000 in
theorem refNameAt_any (s : ByteArray) (at' : Nat) (w : World) (hs : s.size ≤ 100000) (hat : at' ≤ s.size) (ht : Pch.textsL (s.data.toList.drop at') = true) :
    Calls Tryz.prog 104 #[.string s, .int .i64 at'] w fun e w' => e = .returned (.int .i64 ((at' + Plx.nameN (s.data.toList.drop at') : Nat) : Int)) ∧ w = w' := by
  generalize hT : at' + Plx.nameN (s.data.toList.drop at') = T
  have HT := Lib.hid hT
  clear hT
  by_cases hlt : at' < s.size
  · have htx := ht
    rw [texts_at s at' hlt] at htx
    have h1 := HT.out
    unfold Plx.nameN at h1
    rw [nameR_cut s at' hlt] at h1
    have cN := next_any s at' w (by omega) hlt
    rw [nextAt_if] at cN
    have hf := decode_fits s at' hlt
    have hD := Lib.hid (rfl : Utf8.decode s at' = Utf8.decode s at')
    obtain ⟨R, hR⟩ : ∃ R, (Utf8.decode s at').1 = R := ⟨_, rfl⟩
    obtain ⟨K, hK⟩ : ∃ K, (Utf8.decode s at').2 = K := ⟨_, rfl⟩
    have hRK : Utf8.decode s at' = (R, K) := by rw [← hR, ← hK]
    rw [hRK] at cN htx h1 hf
    simp only [Bool.and_eq_true] at htx
    rw [if_pos htx.1.1] at cN
    have cS := refStart_any (R : Int) w
    have HRK := Kept.mk hRK
    have CN := Kept.mk cN
    have HTX := Kept.mk ht
    cases hst : Pch.startB (R : Int) with
    | false =>
      rw [hst] at cS h1
      have HX : Hid (T = at') := by show T = _; rw [← h1]; simp
      have CS := Kept.mk cS
      clear h1 cS cN hst htx hR hK hRK hD ht HT hf
      go_enter Tryz.func104, Tryz.ntmps104
      go_wp2_with (first | (go_at_call 59; refine CN.out.mono ?_; rintro e w' ⟨rfl, rfl⟩) | (go_at_call 123; refine CS.out.mono ?_; rintro e w' ⟨rfl, rfl⟩))
      go_ret
      exact ⟨ret_i64 (by rw [HX.out]), rfl⟩
    | true =>
      have hnb := Pch.name_of_start hst
      rw [hst] at cS
      have HX : Hid (at' + Plx.nameR false (Pch.runes (s.data.toList.drop at')) = T) := by
        show _ = T
        rw [← h1, nameR_cut s at' hlt, hRK, hst, hnb]
        rfl
      have CS := Kept.mk cS
      clear h1 cS cN hst htx hR hK hRK hD ht HT hf hnb
      go_enter Tryz.func104, Tryz.ntmps104
      go_wp2_with (first | (go_at_call 59; refine CN.out.mono ?_; rintro e w' ⟨rfl, rfl⟩) | (go_at_call 123; refine CS.out.mono ?_; rintro e w' ⟨rfl, rfl⟩))
      go_loop [1, 5, 6] (fun a c n => ∃ pos R K : Nat, pos < s.size ∧ a = .int .i64 pos ∧ c = .int .i32 R ∧ n = .int .i64 K ∧ Kept (Utf8.decode s pos = (R, K)) ∧ Kept (Pch.textsL (s.data.toList.drop pos) = true) ∧ Hid (pos + Plx.nameR false (Pch.runes (s.data.toList.drop pos)) = T)) (fun a _ _ => s.size - (intOf a).toNat)
      case atStart => exact ⟨at', R, K, hlt, rfl, rfl, rfl, HRK, HTX, HX.out⟩
      case round =>
        obtain ⟨pos, R, K, hp, rfl, rfl, rfl, HD, HP, H⟩ := hrel
        have hf := decode_fits s pos hp
        have hwd := Lib.width_pos s pos
        have htx := HP.out
        have h1 := H.out
        rw [texts_at s pos hp] at htx
        rw [nameR_cut s pos hp] at h1
        rw [HD.out] at hf hwd htx h1
        simp only [Bool.and_eq_true, Bool.not_false, Bool.true_or, Bool.and_true] at htx h1
        have cName := refName_any (R : Int) w
        have HP2 := Kept.mk htx.2
        cases hnb : Pch.nameB (R : Int) with
        | false =>
          rw [hnb] at cName h1
          have HX : Hid (T = pos) := by show T = _; rw [← h1]; simp
          have CM := Kept.mk cName
          clear h1 cName hnb htx H HP hf hwd
          go_wp2_with (go_at_call 124; refine CM.out.mono ?_; rintro e w' ⟨rfl, rfl⟩)
          go_ret
          exact ⟨ret_i64 (by rw [HX.out]), rfl⟩
        | true =>
          rw [hnb] at cName h1
          rw [if_pos rfl, ← Nat.add_assoc] at h1
          have CM := Kept.mk cName
          have H2 := Lib.hid h1
          have j0 : (0 : Int) ≤ (pos : Int) + (K : Int) := by omega
          have j1 : (pos : Int) + (K : Int) ≤ 100000 := by omega
          by_cases hp2 : pos + K < s.size
          · have e1 : ((pos : Int) + (K : Int)) < (s.size : Int) := by omega
            have hN := next_any s (pos + K) w (by omega) hp2
            have h3 := HP2.out
            rw [texts_at s (pos + K) hp2] at h3
            simp only [Bool.and_eq_true] at h3
            rw [nextAt_if, if_pos h3.1.1] at hN
            obtain ⟨R2, hR2⟩ : ∃ R', (Utf8.decode s (pos + K)).1 = R' := ⟨_, rfl⟩
            obtain ⟨K2, hK2⟩ : ∃ K', (Utf8.decode s (pos + K)).2 = K' := ⟨_, rfl⟩
            have hRK2 : Utf8.decode s (pos + K) = (R2, K2) := by rw [← hR2, ← hK2]
            rw [hRK2] at hN
            have HD2 := Kept.mk hRK2
            have ec : ((pos + K : Nat) : Int) = (pos : Int) + (K : Int) := by omega
            rw [ec] at hN
            have CN2 := Kept.mk hN
            clear h1 cName hnb htx H HP hf hN h3 hR2 hK2 hRK2 ec
            go_wp2_with (first | (go_at_call 124; refine CM.out.mono ?_; rintro e w' ⟨rfl, rfl⟩) | (go_at_call 59; refine CN2.out.mono ?_; rintro e w' ⟨rfl, rfl⟩))
            go_round
            case rel => exact ⟨pos + K, R2, K2, hp2, by go_num, rfl, rfl, HD2, HP2, H2.out⟩
            case measure => simp [intOf]; omega
          · have e1 : ¬ ((pos : Int) + (K : Int)) < (s.size : Int) := by omega
            have HX : Hid (T = pos + K) := by
              show T = _
              rw [← h1, runes_end s _ hp2]
              rfl
            clear h1 cName hnb htx H HP hf
            go_wp2_with (go_at_call 124; refine CM.out.mono ?_; rintro e w' ⟨rfl, rfl⟩)
            go_ret
            exact ⟨ret_i64 (by rw [HX.out]; omega), rfl⟩
  · have hge : s.size ≤ at' := by omega
    have HX : Hid (T = at') := by
      show T = _
      rw [← HT.out, List.drop_eq_nil_of_le (by rw [size_len]; exact hge)]
      rfl
    clear HT ht
    go_enter Tryz.func104, Tryz.ntmps104
    go_wp2
    go_ret
    exact ⟨ret_i64 (by rw [HX.out]), rfl⟩
end Go.Proofs.YtfamljigcffngaaGreatDoor.Wlx
