/- The walks over the document's Texts and Name. -/
import Derived.Test.YtkjodleggfacbaaDoorCharsWalksE
namespace Go.Proofs.YtkjodleggfacbaaDoor.Wch
open Go Go.RowKit Go.PlainAid

theorem nextAt_if (s : ByteArray) (pos : Nat) : nextAt s pos = if Pch.okR (Utf8.decode s pos) = true then Utf8.decode s pos else (0, 0) := by
  unfold nextAt Pch.nextL
  rw [Lib.decodeL_drop]
theorem decode_fits (s : ByteArray) (pos : Nat) (h : pos < s.size) : pos + (Utf8.decode s pos).2 ≤ s.size := by
  have hl := size_len s
  have hne : s.data.toList.drop pos ≠ [] := by
    intro h0
    have := congrArg List.length h0
    rw [List.length_drop, hl] at this
    simp at this
    omega
  have := Lib.decodeL_le _ hne
  rw [Lib.decodeL_drop, List.length_drop, hl] at this
  omega
theorem texts_at (s : ByteArray) (pos : Nat) (h : pos < s.size) : Pch.textsL (s.data.toList.drop pos) = (Pch.okR (Utf8.decode s pos) && Pch.charB (Utf8.decode s pos).1 && Pch.textsL (s.data.toList.drop (pos + (Utf8.decode s pos).2))) := by
  unfold Pch.textsL
  rw [runes_at s pos h, List.all_cons]
theorem refTexts_any (s : ByteArray) (w : World) (hs : s.size ≤ 4611686018427387904) :
    Calls Tryd.prog 52 #[.string s] w fun e w' => e = .returned (.bool (Pch.textsL s.data.toList)) ∧ w = w' := by
  generalize hT : Pch.textsL s.data.toList = T
  have HT := Lib.hid hT
  clear hT
  go_enter Tryd.func52, Tryd.ntmps52
  go_wp2
  go_loop [3] (fun i => ∃ pos : Nat, pos ≤ s.size ∧ i = .int .i64 pos ∧ Hid (Pch.textsL (s.data.toList.drop pos) = T)) (fun i => s.size - (intOf i).toNat)
  case atStart => exact ⟨0, Nat.zero_le _, rfl, HT.out⟩
  case round =>
    obtain ⟨pos, hk, rfl, H⟩ := hrel
    by_cases hlt : pos < s.size
    · have h := H.out
      rw [texts_at s pos hlt] at h
      have cN := next_any s pos w hs hlt
      rw [nextAt_if] at cN
      have hw := Lib.width_pos s pos
      have hf := decode_fits s pos hlt
      generalize hD : Utf8.decode s pos = D at h cN hw hf
      obtain ⟨R, K⟩ := D
      simp only at h cN hw hf
      cases ho : Pch.okR (R, K)
      · rw [ho] at h cN
        simp only [Bool.false_and, Bool.false_eq_true, if_false] at h cN
        have CN := Lib.hid cN
        have H1 := Lib.hid h
        clear h cN H HT hD ho
        go_wp2_with (go_at_call 69; refine CN.out.mono ?_; rintro e w' ⟨rfl, rfl⟩)
        go_ret
        exact ⟨ret_bool H1.out, rfl⟩
      · rw [ho] at h cN
        simp only [Bool.true_and, if_true] at h cN
        have cC := refChar_any (R : Int) w
        have hz : ((K : Int) == 0) = false := by simp; omega
        generalize hc : Pch.charB (R : Int) = C at cC h
        have CN := Lib.hid cN
        have CC := Lib.hid cC
        have H1 := Lib.hid h
        clear h cN H HT hD ho hc cC
        cases C
        · go_wp2_with (first | (go_at_call 69; refine CN.out.mono ?_; rintro e w' ⟨rfl, rfl⟩) | (go_at_call 70; refine CC.out.mono ?_; rintro e w' ⟨rfl, rfl⟩))
          go_ret
          exact ⟨ret_bool H1.out, rfl⟩
        · go_wp2_with (first | (go_at_call 69; refine CN.out.mono ?_; rintro e w' ⟨rfl, rfl⟩) | (go_at_call 70; refine CC.out.mono ?_; rintro e w' ⟨rfl, rfl⟩))
          go_round
          case rel => exact ⟨pos + K, by omega, by go_num, by have := H1.out; rw [Bool.true_and] at this; exact this⟩
          case measure => simp [intOf]; omega
    · have h1 := H.out
      rw [List.drop_eq_nil_of_le (by rw [size_len]; omega)] at h1
      have H1 : Hid (T = true) := h1.symm
      clear h1 H
      go_wp2
      go_ret
      exact ⟨ret_bool H1.out.symm, rfl⟩

/-- the document's loop over a name: what is left of it from a place on -/
def nameFrom (s : ByteArray) (pos : Nat) : Bool := if pos = 0 then Pch.headB (Pch.runes s.data.toList) else (Pch.runes (s.data.toList.drop pos)).all fun p => Pch.okR p && Pch.nameB p.1
theorem name_head (s : ByteArray) (h : 0 < s.size) : nameFrom s 0 = (Pch.okR (Utf8.decode s 0) && Pch.nameB (Utf8.decode s 0).1 && Pch.startB (Utf8.decode s 0).1 && nameFrom s (0 + (Utf8.decode s 0).2)) := by
  have hw := Lib.width_pos s 0
  have e := runes_at s 0 h
  rw [List.drop_zero] at e
  unfold nameFrom
  rw [if_pos rfl, if_neg (by omega), e, Pch.headB]
  cases hs : Pch.startB ((Utf8.decode s 0).1 : Int)
  · simp
  · rw [Pch.name_of_start hs]
    simp
theorem name_tail (s : ByteArray) (pos : Nat) (h0 : pos ≠ 0) (h : pos < s.size) : nameFrom s pos = (Pch.okR (Utf8.decode s pos) && Pch.nameB (Utf8.decode s pos).1 && nameFrom s (pos + (Utf8.decode s pos).2)) := by
  unfold nameFrom
  rw [if_neg h0, if_neg (by omega), runes_at s pos h, List.all_cons]
theorem name_end (s : ByteArray) (h0 : 0 < s.size) : nameFrom s s.size = true := by
  unfold nameFrom
  rw [if_neg (by omega), runes_end s s.size (by omega)]
  rfl
set_option maxHeartbeats 1000000 in
theorem refNametext_any (s : ByteArray) (w : World) (hs : s.size ≤ 4611686018427387904) :
    Calls Tryd.prog 53 #[.string s] w fun e w' => e = .returned (.bool (Pch.nameL s.data.toList)) ∧ w = w' := by
  have hl := size_len s
  by_cases h1 : s.size < 1
  · have e : Pch.nameL s.data.toList = false := by
      rw [List.eq_nil_of_length_eq_zero (show s.data.toList.length = 0 by omega)]; rfl
    rw [e]
    clear hl e
    go_enter Tryd.func53, Tryd.ntmps53
    go_wp2
    all_goals first
      | (go_ret; exact ⟨rfl, rfl⟩)
      | (exfalso; omega)
  by_cases h2 : 100 < s.size
  · have e : Pch.nameL s.data.toList = false := by
      unfold Pch.nameL
      rw [decide_eq_false (by omega), Bool.false_and]
    rw [e]
    clear hl e
    go_enter Tryd.func53, Tryd.ntmps53
    go_wp2
    all_goals first
      | (go_ret; exact ⟨rfl, rfl⟩)
      | (exfalso; omega)
  have e : Pch.nameL s.data.toList = nameFrom s 0 := by
    unfold Pch.nameL nameFrom
    rw [decide_eq_true (by omega), Bool.true_and, if_pos rfl]
  rw [e]
  generalize hT : nameFrom s 0 = T
  have HT := Lib.hid hT
  clear hT hl e
  go_enter Tryd.func53, Tryd.ntmps53
  go_wp2
  go_loop [3] (fun i => ∃ pos : Nat, pos ≤ s.size ∧ i = .int .i64 pos ∧ Hid (nameFrom s pos = T)) (fun i => s.size - (intOf i).toNat)
  case atStart => exact ⟨0, Nat.zero_le _, rfl, HT.out⟩
  case round =>
    obtain ⟨pos, hk, rfl, H⟩ := hrel
    by_cases hlt : pos < s.size
    · have h := H.out
      have cN := next_any s pos w hs hlt
      rw [nextAt_if] at cN
      have hw := Lib.width_pos s pos
      have hf := decode_fits s pos hlt
      have hh : nameFrom s pos = (Pch.okR (Utf8.decode s pos) && Pch.nameB (Utf8.decode s pos).1 && (!decide (pos = 0) || Pch.startB (Utf8.decode s pos).1) && nameFrom s (pos + (Utf8.decode s pos).2)) := by
        by_cases h0 : pos = 0
        · subst h0
          rw [name_head s (by omega)]
          simp
        · rw [name_tail s pos h0 hlt, decide_eq_false h0]
          simp
      rw [hh] at h
      generalize hD : Utf8.decode s pos = D at h cN hw hf
      obtain ⟨R, K⟩ := D
      simp only at h cN hw hf
      generalize ho : Pch.okR (R, K) = O at cN h
      have cC := refName_any (R : Int) w
      have cS := refStart_any (R : Int) w
      generalize hc : Pch.nameB (R : Int) = C at cC h
      generalize hd : Pch.startB (R : Int) = D at cS h
      have H1 := Lib.hid h
      clear h H HT hD ho hc hd hh
      cases O
      · simp only [Bool.false_eq_true, if_false] at cN
        have CN := Lib.hid cN
        clear cN cC cS
        go_wp2_with (go_at_call 69; refine CN.out.mono ?_; rintro e w' ⟨rfl, rfl⟩)
        go_ret
        exact ⟨ret_bool (by rw [← H1.out]; rfl), rfl⟩
      · simp only [if_true] at cN
        have hz : ((K : Int) == 0) = false := by simp; omega
        have CN := Lib.hid cN
        have CC := Lib.hid cC
        have CS := Lib.hid cS
        clear cN cC cS
        cases C
        · go_wp2_with (first | (go_at_call 69; refine CN.out.mono ?_; rintro e w' ⟨rfl, rfl⟩) | (go_at_call 71; refine CC.out.mono ?_; rintro e w' ⟨rfl, rfl⟩))
          go_ret
          exact ⟨ret_bool (by rw [← H1.out]; rfl), rfl⟩
        · by_cases h0 : pos = 0
          · subst h0
            cases D
            · go_wp2_with (first | (go_at_call 69; refine CN.out.mono ?_; rintro e w' ⟨rfl, rfl⟩) | (go_at_call 71; refine CC.out.mono ?_; rintro e w' ⟨rfl, rfl⟩) | (go_at_call 72; refine CS.out.mono ?_; rintro e w' ⟨rfl, rfl⟩))
              go_ret
              exact ⟨ret_bool (by rw [← H1.out]; rfl), rfl⟩
            · go_wp2_with (first | (go_at_call 69; refine CN.out.mono ?_; rintro e w' ⟨rfl, rfl⟩) | (go_at_call 71; refine CC.out.mono ?_; rintro e w' ⟨rfl, rfl⟩) | (go_at_call 72; refine CS.out.mono ?_; rintro e w' ⟨rfl, rfl⟩))
              go_round
              case rel => exact ⟨0 + K, by omega, by go_num, by show _ = _; simpa using H1.out⟩
              case measure => simp [intOf]; omega
          · have hp0 : ((pos : Int) == 0) = false := by simpa using h0
            go_wp2_with (first | (go_at_call 69; refine CN.out.mono ?_; rintro e w' ⟨rfl, rfl⟩) | (go_at_call 71; refine CC.out.mono ?_; rintro e w' ⟨rfl, rfl⟩))
            go_round
            case rel => exact ⟨pos + K, by omega, by go_num, by have := H1.out; rw [decide_eq_false h0] at this; exact this⟩
            case measure => simp [intOf]; omega
    · have h1 := H.out
      obtain rfl : pos = s.size := by omega
      rw [name_end s (by omega)] at h1
      have H1 : Hid (T = true) := h1.symm
      clear h1 H
      go_wp2
      go_ret
      exact ⟨ret_bool H1.out.symm, rfl⟩
end Go.Proofs.YtkjodleggfacbaaDoor.Wch
