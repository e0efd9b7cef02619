/- The walks over the program's wrong and name (chapter 22). -/
import Derived.Test.YtfamljigcffngaaGreatDoorCharsWalksF
import Derived.Test.YtfamljigcffngaaGreatDoorLexPlain
import Derived.Test.YtfamljigcffngaaGreatDoorShelfLex
import Derived.Shelf.Unicode.DecodeAny
import Derived.Lib.IndexBytes
namespace Go.Proofs.YtfamljigcffngaaGreatDoor.Wlx
open Go Go.RowKit Go.Proofs.YtfamljigcffngaaGreatDoor.Wch

/-- kept from every tactic of the walk -/
structure Kept (p : Prop) : Prop where
  out : p
theorem below_any {w w1 w2 : World} (h : Below w.heap.size w w1) (h' : Below w1.heap.size w1 w2) : Below w.heap.size w w2 := h.trans (h'.mono h.size)
theorem ret_i64 {a b : Int} (h : a = b) : Ending.returned (.int .i64 a) = .returned (.int .i64 b) := by rw [h]
theorem ret_str {a b : ByteArray} (h : a = b) : Ending.returned (.string a) = .returned (.string b) := by rw [h]
theorem decode_cut (s : ByteArray) (pos : Nat) (h : pos < s.size) : Lib.decodeGo (s.extract pos s.size) = Utf8.decode s pos := by
  have hz : (s.extract pos s.size).size ≠ 0 := by
    have := congrArg List.length (Lib.extract_to_end s pos)
    rw [size_len, List.length_drop, size_len] at this
    omega
  unfold Lib.decodeGo
  rw [if_neg hz, ← Lib.decodeL_drop, List.drop_zero, Lib.extract_to_end, Lib.decodeL_drop]
theorem decode_call (s : ByteArray) (pos : Nat) (h : pos < s.size) (w : World) (ht : Env w) :
    Calls Tryz.prog 31 #[.string (s.extract pos s.size)] w fun e w' => e = .returned (.tuple #[.int .i32 (Utf8.decode s pos).1, .int .i64 (Utf8.decode s pos).2]) ∧ Below w.heap.size w w' := by
  have h1 := Any.utf8_DecodeRuneInString Tryz.lays197 (s.extract pos s.size) w ht.2
  rw [decode_cut s pos h] at h1
  exact h1
def wrongI (l : List UInt8) : Int := match Plx.wrongR 0 (Pch.runes l) with
  | none => -1
  | some p => p
def optI : Option Nat → Int
  | none => -1
  | some p => p
theorem wrongI_eq (l : List UInt8) : wrongI l = optI (Plx.wrongR 0 (Pch.runes l)) := by
  unfold wrongI optI
  cases Plx.wrongR 0 (Pch.runes l) <;> rfl
set_option maxHeartbeats 1000000 in
theorem wrong_any (s : ByteArray) (w : World) (ht : Env w) :
    Calls Tryz.prog 14 #[.string s] w fun e w' => e = .returned (.int .i64 (wrongI s.data.toList)) ∧ Below w.heap.size w w' := by
  rw [wrongI_eq]
  generalize hT : Plx.wrongR 0 (Pch.runes s.data.toList) = T
  have HT := Lib.hid hT
  have HE := Lib.hid ht
  clear hT ht
  go_enter Tryz.func14, Tryz.ntmps14
  go_wp2
  go_loopg [] s.size (fun g wx => ∃ pos : Nat, wx.heap[w.heap.size]? = some (.stringIter s pos) ∧ Below w.heap.size w wx ∧ Hid (Plx.wrongR pos (Pch.runes (s.data.toList.drop pos)) = T) ∧ s.size ≤ pos + g)
  case atStart => exact ⟨0, World.iter_heap w s 0, (Below.refl _ w).alloc (Nat.le_refl _) _, HT.out, by omega⟩
  case round =>
    obtain ⟨pos, hit, hbw, H, hfu⟩ := hrel
    have hsz : w.heap.size < wr.heap.size := (Array.getElem?_eq_some_iff.1 hit).1
    by_cases hp : pos < s.size
    · obtain ⟨g, rfl⟩ : ∃ g, gk = g + 1 := ⟨gk - 1, by omega⟩
      have hnx : ∀ ty, (Instr.next (.pointer (some ⟨w.heap.size, 0, none⟩)) true ty).run Tryz.prog wr = _ := fun ty => Lib.run_next_any_at wr w.heap.size s pos ty hit hp
      have hwd := Lib.width_pos s pos
      have h1 := H.out
      rw [runes_at s pos hp] at h1
      have hD := fun wx hx => decode_call s pos hp wx hx
      obtain ⟨R, hR⟩ : ∃ R, (Utf8.decode s pos).1 = R := ⟨_, rfl⟩
      obtain ⟨K, hK⟩ : ∃ K, (Utf8.decode s pos).2 = K := ⟨_, rfl⟩
      have h2 : (if (Pch.okR (R, K) && Pch.charB (R : Int)) = true then Plx.wrongR (pos + K) (Pch.runes (s.data.toList.drop (pos + K))) else some pos) = T := by rw [← hR, ← hK]; exact h1
      rw [hR, hK] at hnx
      simp only [hR, hK] at hD
      rw [hK] at hwd
      have hit2 := Lib.iterAt_heap wr w.heap.size s pos (pos + K) hit
      have hbw2 := Lib.below_iterAt hbw (k := w.heap.size) (Nat.le_refl _) s (pos + K)
      obtain ⟨W, hWd⟩ : ∃ W, wr.iterAt w.heap.size s (pos + K) = W := ⟨_, rfl⟩
      rw [hWd] at hnx hit2 hbw2
      have cS := fun wx => char_any (R : Int) wx
      have hWs : w.heap.size < W.heap.size := (Array.getElem?_eq_some_iff.1 hit2).1
      generalize hc : Pch.charB (R : Int) = C at cS h2
      have H2 := Lib.hid h2
      have CS := Lib.hid cS
      have CD := Lib.hid hD
      clear h1 h2 hR hK hWd hc cS H hD
      have i0 : (0 : Int) ≤ (pos : Int) := by omega
      have i1 : (pos : Int) ≤ (s.size : Int) := by omega
      have finB : ∀ wx, Below W.heap.size W wx → Below w.heap.size w wx := fun wx h => hbw2.trans (h.mono (by omega))
      have FB := Kept.mk finB
      clear finB
      cases C
      · have HX : Hid (T = some pos) := by show T = _; rw [← H2.out]; simp
        go_wp2_with (first | (go_at_call 31; refine (CD.out _ (HE.out.below (by assumption))).mono ?_; rintro e w1 ⟨rfl, hb1⟩) | (go_at_call 32; refine (CS.out _).mono ?_; rintro e w' ⟨rfl, rfl⟩))
        go_ret
        exact ⟨ret_i64 (by rw [HX.out]; rfl), FB.out _ hb1⟩
      · by_cases hk : R = 65533 ∧ K = 1
        · obtain ⟨rfl, rfl⟩ := hk
          have HX : Hid (T = some pos) := by show T = _; rw [← H2.out]; simp [Pch.okR]
          go_wp2_with (first | (go_at_call 31; refine (CD.out _ (HE.out.below (by assumption))).mono ?_; rintro e w1 ⟨rfl, hb1⟩) | (go_at_call 32; refine (CS.out _).mono ?_; rintro e w' ⟨rfl, rfl⟩))
          go_ret
          exact ⟨ret_i64 (by rw [HX.out]; rfl), FB.out _ hb1⟩
        · have HX : Hid (Plx.wrongR (pos + K) (Pch.runes (s.data.toList.drop (pos + K))) = T) := by
            show _ = T
            rw [← H2.out]
            have : Pch.okR (R, K) = true := by simp only [Pch.okR, decide_eq_false hk]; rfl
            rw [this]
            rfl
          have HK := Kept.mk hk
          clear hk
          by_cases hr : R = 65533
          · have e1 : ((R : Int) == 65533) = true := by rw [beq_iff_eq]; omega
            have e2 : ((K : Int) == 1) = false := by have := HK.out; simp; omega
            have HR := Kept.mk hr
            clear hr
            go_wp2_with (first | (go_at_call 31; refine (CD.out _ (HE.out.below (by assumption))).mono ?_; rintro e w1 ⟨rfl, hb1⟩) | (go_at_call 32; refine (CS.out _).mono ?_; rintro e w' ⟨rfl, rfl⟩))
            go_roundg g
            case measure => omega
            case rel => exact ⟨pos + K, (hb1.block w.heap.size hWs).trans hit2, FB.out _ hb1, HX.out, by omega⟩
          · have e1 : ((R : Int) == 65533) = false := by simp; omega
            clear hr
            go_wp2_with (first | (go_at_call 31; refine (CD.out _ (HE.out.below (by assumption))).mono ?_; rintro e w1 ⟨rfl, hb1⟩) | (go_at_call 32; refine (CS.out _).mono ?_; rintro e w' ⟨rfl, rfl⟩))
            go_roundg g
            case measure => omega
            case rel => exact ⟨pos + K, (hb1.block w.heap.size hWs).trans hit2, FB.out _ hb1, HX.out, by omega⟩
    · have hnx : ∀ ty, (Instr.next (.pointer (some ⟨w.heap.size, 0, none⟩)) true ty).run Tryz.prog wr = _ := fun ty => Lib.run_next_end_at wr w.heap.size s pos ty hit hp
      have h1 := H.out
      rw [runes_end s pos hp] at h1
      have H1 : Hid (T = none) := h1.symm
      clear h1 H
      go_wp2
      go_ret
      exact ⟨ret_i64 (by rw [H1.out]; rfl), hbw⟩

theorem nameR_cut (s : ByteArray) (pos : Nat) (h : pos < s.size) (b : Bool) : Plx.nameR b (Pch.runes (s.data.toList.drop pos)) = if (Pch.nameB (Utf8.decode s pos).1 && (!b || Pch.startB (Utf8.decode s pos).1)) = true then (Utf8.decode s pos).2 + Plx.nameR false (Pch.runes (s.data.toList.drop (pos + (Utf8.decode s pos).2))) else 0 := by
  rw [runes_at s pos h, Plx.nameR]
theorem extract_take (s : ByteArray) (n : Nat) : s.extract 0 n = ⟨(s.data.toList.take n).toArray⟩ := by
  have h := Lib.extract_data s 0 n
  rw [List.drop_zero, Nat.sub_zero] at h
  rw [← h]
theorem take_mk (s : ByteArray) : (⟨(s.data.toList.take s.size).toArray⟩ : ByteArray) = s := by
  rw [List.take_of_length_le (by rw [size_len]; exact Nat.le_refl _)]
set_option maxHeartbeats 1000000 in
theorem name_any' (s : ByteArray) (w : World) (hs : s.size ≤ 4611686018427387904) (ht : Env w) :
    Calls Tryz.prog 40 #[.string s] w fun e w' => e = .returned (.string ⟨(s.data.toList.take (Plx.nameN s.data.toList)).toArray⟩) ∧ Below w.heap.size w w' := by
  generalize hT : Plx.nameN s.data.toList = T
  have HT := Lib.hid hT
  have HE := Lib.hid ht
  clear hT ht
  go_enter Tryz.func40, Tryz.ntmps40
  go_wp2
  go_loopg [] s.size (fun g wx => ∃ pos : Nat, wx.heap[w.heap.size]? = some (.stringIter s pos) ∧ Below w.heap.size w wx ∧ Hid (pos + Plx.nameR (decide (pos = 0)) (Pch.runes (s.data.toList.drop pos)) = T) ∧ s.size ≤ pos + g ∧ pos ≤ s.size)
  case atStart => exact ⟨0, World.iter_heap w s 0, (Below.refl _ w).alloc (Nat.le_refl _) _, by show _ = _; rw [← HT.out]; simp [Plx.nameN], by omega, by omega⟩
  case round =>
    obtain ⟨pos, hit, hbw, H, hfu, hple⟩ := hrel
    have hsz : w.heap.size < wr.heap.size := (Array.getElem?_eq_some_iff.1 hit).1
    by_cases hp : pos < s.size
    · obtain ⟨g, rfl⟩ : ∃ g, gk = g + 1 := ⟨gk - 1, by omega⟩
      have hnx : ∀ ty, (Instr.next (.pointer (some ⟨w.heap.size, 0, none⟩)) true ty).run Tryz.prog wr = _ := fun ty => Lib.run_next_any_at wr w.heap.size s pos ty hit hp
      have hwd := Lib.width_pos s pos
      have hft := decode_fits s pos hp
      have h1 := H.out
      rw [nameR_cut s pos hp] at h1
      obtain ⟨R, hR⟩ : ∃ R, (Utf8.decode s pos).1 = R := ⟨_, rfl⟩
      obtain ⟨K, hK⟩ : ∃ K, (Utf8.decode s pos).2 = K := ⟨_, rfl⟩
      rw [hR, hK] at hnx h1
      rw [hK] at hwd hft
      have hit2 := Lib.iterAt_heap wr w.heap.size s pos (pos + K) hit
      have hbw2 := Lib.below_iterAt hbw (k := w.heap.size) (Nat.le_refl _) s (pos + K)
      obtain ⟨W, hWd⟩ : ∃ W, wr.iterAt w.heap.size s (pos + K) = W := ⟨_, rfl⟩
      rw [hWd] at hnx hit2 hbw2
      have hWs : w.heap.size < W.heap.size := (Array.getElem?_eq_some_iff.1 hit2).1
      have cN := name_any (R : Int) W (HE.out.below hbw2).1
      have cS := fun wx (hx : Tabs wx) => start_any (R : Int) wx hx
      generalize hc : Pch.nameB (R : Int) = C at cN h1
      generalize hd : Pch.startB (R : Int) = D at cS h1
      have H2 := Lib.hid h1
      have CN := Lib.hid cN
      have CS := Lib.hid cS
      clear h1 hR hK hWd hc hd cN cS H
      have hnext : pos + K ≠ 0 := by omega
      have i0 : (0 : Int) ≤ (pos : Int) := by omega
      have i1 : (pos : Int) ≤ (s.size : Int) := by omega
      have FB := Kept.mk (fun wx (h : Below W.heap.size W wx) => hbw2.trans (h.mono (Nat.le_of_lt hWs)))
      cases C
      · have HX : Hid (T = pos) := by show T = _; rw [← H2.out]; simp
        go_wp2_with (go_at_call 68; refine CN.out.mono ?_; rintro e w1 ⟨rfl, hb1⟩)
        go_ret
        exact ⟨ret_str (by rw [HX.out, extract_take]), FB.out _ hb1⟩
      · by_cases h0 : pos = 0
        · subst h0
          cases D
          · have HX : Hid (T = 0) := by show T = _; rw [← H2.out]; simp
            go_wp2_with (first | (go_at_call 68; refine CN.out.mono ?_; rintro e w1 ⟨rfl, hb1⟩) | (go_at_call 69; refine (CS.out _ ((HE.out.below (by assumption)).below (by assumption)).1).mono ?_; rintro e w2 ⟨rfl, hb2⟩))
            go_ret
            exact ⟨ret_str (by rw [HX.out]; rfl), FB.out _ (below_any hb1 hb2)⟩
          · go_wp2_with (first | (go_at_call 68; refine CN.out.mono ?_; rintro e w1 ⟨rfl, hb1⟩) | (go_at_call 69; refine (CS.out _ ((HE.out.below (by assumption)).below (by assumption)).1).mono ?_; rintro e w2 ⟨rfl, hb2⟩))
            go_roundg g
            case measure => omega
            case rel => exact ⟨0 + K, ((below_any hb1 hb2).block w.heap.size hWs).trans hit2, FB.out _ (below_any hb1 hb2), by have := H2.out; simp only [decide_true, Bool.not_true, Bool.false_or, Bool.and_self, if_true] at this; show _ = _; rw [decide_eq_false hnext, ← this]; omega, by omega, by omega⟩
        · have hz : ((pos : Int) == 0) = false := by simpa using h0
          go_wp2_with (go_at_call 68; refine CN.out.mono ?_; rintro e w1 ⟨rfl, hb1⟩)
          go_roundg g
          case measure => omega
          case rel => exact ⟨pos + K, (hb1.block w.heap.size hWs).trans hit2, FB.out _ hb1, by have := H2.out; rw [decide_eq_false h0] at this; simp only [Bool.not_false, Bool.true_or, Bool.and_self, if_true] at this; show _ = _; rw [decide_eq_false hnext, ← this]; omega, by omega, by omega⟩
    · have hnx : ∀ ty, (Instr.next (.pointer (some ⟨w.heap.size, 0, none⟩)) true ty).run Tryz.prog wr = _ := fun ty => Lib.run_next_end_at wr w.heap.size s pos ty hit hp
      have h1 := H.out
      rw [runes_end s pos hp] at h1
      have H1 : Hid (T = s.size) := by show T = _; rw [← h1]; simp only [Plx.nameR]; omega
      clear h1 H
      go_wp2
      go_ret
      exact ⟨ret_str (by rw [H1.out, take_mk]), hbw⟩
end Go.Proofs.YtfamljigcffngaaGreatDoor.Wlx
