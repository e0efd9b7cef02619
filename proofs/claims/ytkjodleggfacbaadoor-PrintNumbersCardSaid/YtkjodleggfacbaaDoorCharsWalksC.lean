/- The walks over the program's loops over texts: Texts, Name. -/
import Derived.Test.YtkjodleggfacbaaDoorCharsWalksB
import Derived.Test.YtkjodleggfacbaaDoorShelf
import Derived.Deep.DeepFit
import Derived.Lib.OthersKept
namespace Go.Proofs.YtkjodleggfacbaaDoor.Wch
open Go Go.RowKit

theorem cell_lt {w : World} {g i : Nat} {v : Value} (h : w.cell? ⟨g, i, none⟩ = some v) : g < w.heap.size := by
  rcases Nat.lt_or_ge g w.heap.size with hl | hg
  · exact hl
  · simp [World.cell?, Array.getElem?_eq_none hg] at h
/-- what the walks read of the package variables -/
def Env (w : World) : Prop := Tabs w ∧ Lib.Utf8Tabs 3 4 w
theorem utf8_below {a b : Nat} {w w' : World} (h : Lib.Utf8Tabs a b w) (hb : Below w.heap.size w w') : Lib.Utf8Tabs a b w' := by
  refine ⟨fun c hc => ?_, fun i hi => ?_⟩
  · rw [hb.cell (p := ⟨a, c, none⟩) (cell_lt (h.1 c hc))]; exact h.1 c hc
  · rw [hb.cell (p := ⟨b, 2 * i, none⟩) (cell_lt (h.2 i hi).1), hb.cell (p := ⟨b, 2 * i + 1, none⟩) (cell_lt (h.2 i hi).2)]; exact h.2 i hi
theorem Env.below {w w' : World} (h : Env w) (hb : Below w.heap.size w w') : Env w' := ⟨h.1.below hb, utf8_below h.2 hb⟩
theorem valid_any (s : ByteArray) (w : World) (hs : s.size ≤ 9223372036854775807) (ht : Env w) :
    Calls Tryd.prog 62 #[.string s] w fun e w' => e = .returned (.bool (Lib.validD s.data.toList)) ∧ Below w.heap.size w w' := Any.utf8_ValidString Tryd.laysValid s w hs ht.2

theorem size_len (s : ByteArray) : s.data.toList.length = s.size := by rw [Array.length_toList]; rfl
theorem runes_at (s : ByteArray) (pos : Nat) (h : pos < s.size) : Pch.runes (s.data.toList.drop pos) = Utf8.decode s pos :: Pch.runes (s.data.toList.drop (pos + (Utf8.decode s pos).2)) := by
  have hl := size_len s
  have hne : s.data.toList.drop pos ≠ [] := by
    intro h0
    have := congrArg List.length h0
    rw [List.length_drop, hl] at this
    simp at this
    omega
  rw [Pch.runes_step _ hne, Lib.decodeL_drop, List.drop_drop]
theorem runes_end (s : ByteArray) (pos : Nat) (h : ¬ pos < s.size) : Pch.runes (s.data.toList.drop pos) = [] := by
  have hl := size_len s
  rw [List.drop_eq_nil_of_le (by omega)]
  rfl

set_option maxHeartbeats 1000000 in
theorem texts_any (s : ByteArray) (w : World) (hs : s.size ≤ 9223372036854775807) (ht : Env w) :
    Calls Tryd.prog 45 #[.string s] w fun e w' => e = .returned (.bool (Pch.textsL s.data.toList)) ∧ Below w.heap.size w w' := by
  rw [← Pch.texts_prog]
  have cV := fun wx hx => valid_any s wx hs hx
  generalize hT : Pch.loopTexts (Pch.runes s.data.toList) = T
  generalize hV : Lib.validD s.data.toList = V at cV
  have HT := Lib.hid hT
  have HE := Lib.hid ht
  have CV := Lib.hid cV
  clear hT ht hV cV
  go_enter Tryd.func45, Tryd.ntmps45
  go_wp2
  go_loopg [] s.size (fun g wx => ∃ pos : Nat, wx.heap[w.heap.size]? = some (.stringIter s pos) ∧ Below w.heap.size w wx ∧ Hid (Pch.loopTexts (Pch.runes (s.data.toList.drop pos)) = T) ∧ s.size ≤ pos + g)
  case atStart => exact ⟨0, World.iter_heap w s 0, (Below.refl _ w).alloc (Nat.le_refl _) _, HT.out, by omega⟩
  case round =>
    obtain ⟨pos, hit, hbw, H, hfu⟩ := hrel
    have hsz : w.heap.size < wr.heap.size := (Array.getElem?_eq_some_iff.1 hit).1
    by_cases hp : pos < s.size
    · obtain ⟨g, rfl⟩ : ∃ g, gk = g + 1 := ⟨gk - 1, by omega⟩
      have hnx : ∀ ty, (Instr.next (.pointer (some ⟨w.heap.size, 0, none⟩)) true ty).run Tryd.prog wr = _ := fun ty => Lib.run_next_any_at wr w.heap.size s pos ty hit hp
      have hwd := Lib.width_pos s pos
      have h1 := H.out
      rw [runes_at s pos hp] at h1
      obtain ⟨R, hR⟩ : ∃ R, (Utf8.decode s pos).1 = R := ⟨_, rfl⟩
      obtain ⟨K, hK⟩ : ∃ K, (Utf8.decode s pos).2 = K := ⟨_, rfl⟩
      have h2 : (Pch.charB (R : Int) && Pch.loopTexts (Pch.runes (s.data.toList.drop (pos + K)))) = T := by rw [← hR, ← hK]; exact h1
      rw [hR, hK] at hnx
      rw [hK] at hwd
      have hit2 := Lib.iterAt_heap wr w.heap.size s pos (pos + K) hit
      have hbw2 := Lib.below_iterAt hbw (k := w.heap.size) (Nat.le_refl _) s (pos + K)
      obtain ⟨W, hWd⟩ : ∃ W, wr.iterAt w.heap.size s (pos + K) = W := ⟨_, rfl⟩
      rw [hWd] at hnx hit2 hbw2
      have cS := char_any (R : Int) W
      have hWs : w.heap.size < W.heap.size := (Array.getElem?_eq_some_iff.1 hit2).1
      generalize hc : Pch.charB (R : Int) = C at cS h2
      have H2 := Lib.hid h2
      have CS := Lib.hid cS
      clear h1 h2 hR hK hWd hc cS H
      cases C
      · go_wp2_with (go_at_call 63; refine CS.out.mono ?_; rintro e w' ⟨rfl, rfl⟩)
        go_ret
        exact ⟨ret_bool (by rw [← H2.out]; rfl), hbw2⟩
      · go_wp2_with (go_at_call 63; refine CS.out.mono ?_; rintro e w' ⟨rfl, rfl⟩)
        go_roundg g
        case measure => omega
        case rel => exact ⟨pos + K, hit2, hbw2, by have := H2.out; rw [Bool.true_and] at this; exact this, by omega⟩
    · have hnx : ∀ ty, (Instr.next (.pointer (some ⟨w.heap.size, 0, none⟩)) true ty).run Tryd.prog wr = _ := fun ty => Lib.run_next_end_at wr w.heap.size s pos ty hit hp
      have h1 := H.out
      rw [runes_end s pos hp] at h1
      have H1 : Hid (T = true) := h1.symm
      clear h1 H
      go_wp2_with (go_at_call 62; refine (CV.out _ (HE.out.below (by assumption))).mono ?_; rintro e w' ⟨rfl, hb⟩)
      go_ret
      exact ⟨ret_bool (by rw [H1.out, Bool.true_and]), hbw.trans (hb.mono hbw.size)⟩

set_option maxHeartbeats 1000000 in
theorem nametext_any (s : ByteArray) (w : World) (hs : s.size ≤ 9223372036854775807) (ht : Env w) :
    Calls Tryd.prog 44 #[.string s] w fun e w' => e = .returned (.bool (Pch.nameL s.data.toList)) ∧ Below w.heap.size w w' := by
  rw [← Pch.name_prog]
  have cV := fun wx hx => valid_any s wx hs hx
  have hlen := size_len s
  generalize hT : Pch.loopName true (Pch.runes s.data.toList) = T
  generalize hV : Lib.validD s.data.toList = V at cV
  have HT := Lib.hid hT
  have HE := Lib.hid ht
  have CV := Lib.hid cV
  generalize hB : (T && (!s.data.toList.isEmpty && decide (s.data.toList.length ≤ 100) && V)) = B
  have HB0 : Hid ((T && (!s.toList.isEmpty && decide ((s.size : Int) ≤ 100) && V)) = B) := by
    show _ = _
    rw [← hB, hlen, ByteArray.toList_eq]
    congr 3
    exact decide_eq_decide.2 (by omega)
  clear hT ht hV cV hlen hB
  go_enter Tryd.func44, Tryd.ntmps44
  go_wp2
  go_loopg [] s.size (fun g wx => ∃ pos : Nat, wx.heap[w.heap.size]? = some (.stringIter s pos) ∧ Below w.heap.size w wx ∧ Hid (Pch.loopName (decide (pos = 0)) (Pch.runes (s.data.toList.drop pos)) = T) ∧ s.size ≤ pos + g)
  case atStart => exact ⟨0, World.iter_heap w s 0, (Below.refl _ w).alloc (Nat.le_refl _) _, HT.out, by omega⟩
  case round =>
    obtain ⟨pos, hit, hbw, H, hfu⟩ := hrel
    have hsz : w.heap.size < wr.heap.size := (Array.getElem?_eq_some_iff.1 hit).1
    by_cases hp : pos < s.size
    · obtain ⟨g, rfl⟩ : ∃ g, gk = g + 1 := ⟨gk - 1, by omega⟩
      have hnx : ∀ ty, (Instr.next (.pointer (some ⟨w.heap.size, 0, none⟩)) true ty).run Tryd.prog wr = _ := fun ty => Lib.run_next_any_at wr w.heap.size s pos ty hit hp
      have hwd := Lib.width_pos s pos
      have h1 := H.out
      rw [runes_at s pos hp] at h1
      obtain ⟨R, hR⟩ : ∃ R, (Utf8.decode s pos).1 = R := ⟨_, rfl⟩
      obtain ⟨K, hK⟩ : ∃ K, (Utf8.decode s pos).2 = K := ⟨_, rfl⟩
      have h2 : (Pch.nameB (R : Int) && (!decide (pos = 0) || Pch.startB (R : Int)) && Pch.loopName false (Pch.runes (s.data.toList.drop (pos + K)))) = T := by rw [← hR, ← hK]; exact h1
      rw [hR, hK] at hnx
      rw [hK] at hwd
      have hit2 := Lib.iterAt_heap wr w.heap.size s pos (pos + K) hit
      have hbw2 := Lib.below_iterAt hbw (k := w.heap.size) (Nat.le_refl _) s (pos + K)
      obtain ⟨W, hWd⟩ : ∃ W, wr.iterAt w.heap.size s (pos + K) = W := ⟨_, rfl⟩
      rw [hWd] at hnx hit2 hbw2
      have hWs : w.heap.size < W.heap.size := (Array.getElem?_eq_some_iff.1 hit2).1
      have cN := name_any (R : Int) W (HE.out.below hbw2).1
      have cS := fun wx (hx : Tabs wx) => start_any (R : Int) wx hx
      generalize hc : Pch.nameB (R : Int) = C at cN h2
      generalize hd : Pch.startB (R : Int) = D at cS h2
      have H2 := Lib.hid h2
      have CN := Lib.hid cN
      have CS := Lib.hid cS
      clear h1 h2 hR hK hWd hc hd cN cS H
      have hnext : pos + K ≠ 0 := by omega
      cases C
      · go_wp2_with (go_at_call 60; refine CN.out.mono ?_; rintro e w1 ⟨rfl, hb1⟩)
        go_ret
        exact ⟨ret_bool (by rw [← HB0.out, ← H2.out]; rfl), hbw2.trans (hb1.mono (by omega))⟩
      · by_cases h0 : pos = 0
        · subst h0
          cases D
          · go_wp2_with (first | (go_at_call 60; refine CN.out.mono ?_; rintro e w1 ⟨rfl, hb1⟩) | (go_at_call 61; refine (CS.out _ ((HE.out.below (by assumption)).below (by assumption)).1).mono ?_; rintro e w2 ⟨rfl, hb2⟩))
            go_ret
            exact ⟨ret_bool (by rw [← HB0.out, ← H2.out]; rfl), hbw2.trans ((hb1.trans (hb2.mono hb1.size)).mono (by omega))⟩
          · go_wp2_with (first | (go_at_call 60; refine CN.out.mono ?_; rintro e w1 ⟨rfl, hb1⟩) | (go_at_call 61; refine (CS.out _ ((HE.out.below (by assumption)).below (by assumption)).1).mono ?_; rintro e w2 ⟨rfl, hb2⟩))
            go_roundg g
            case measure => omega
            case rel => exact ⟨0 + K, ((hb1.trans (hb2.mono hb1.size)).block w.heap.size hWs).trans hit2, hbw2.trans ((hb1.trans (hb2.mono hb1.size)).mono (by omega)), by have := H2.out; simp only [Bool.true_and, Bool.or_true] at this; show _ = _; rw [decide_eq_false hnext]; exact this, by omega⟩
        · have hz : ((pos : Int) == 0) = false := by simpa using h0
          go_wp2_with (go_at_call 60; refine CN.out.mono ?_; rintro e w1 ⟨rfl, hb1⟩)
          go_roundg g
          case measure => omega
          case rel => exact ⟨pos + K, (hb1.block w.heap.size hWs).trans hit2, hbw2.trans (hb1.mono (by omega)), by have := H2.out; rw [decide_eq_false h0] at this; show _ = _; rw [decide_eq_false hnext]; exact this, by omega⟩
    · have hnx : ∀ ty, (Instr.next (.pointer (some ⟨w.heap.size, 0, none⟩)) true ty).run Tryd.prog wr = _ := fun ty => Lib.run_next_end_at wr w.heap.size s pos ty hit hp
      have h1 := H.out
      rw [runes_end s pos hp] at h1
      have H1 : Hid (T = true) := by show T = true; rw [← h1]; cases decide (pos = 0) <;> rfl
      clear h1 H
      have HB : Hid ((!s.toList.isEmpty && decide ((s.size : Int) ≤ 100) && V) = B) := by
        have h := HB0.out
        rw [H1.out, Bool.true_and] at h
        exact h
      go_wp2_with (go_at_call 62; refine (CV.out _ (HE.out.below (by assumption))).mono ?_; rintro e w' ⟨rfl, hb⟩)
      · go_ret
        exact ⟨ret_bool (by rw [← HB.out, ‹s.toList = []›]; rfl), hbw⟩
      · go_ret
        refine ⟨ret_bool ?_, hbw.trans (hb.mono hbw.size)⟩
        have e1 : s.toList.isEmpty = false := by simpa using ‹¬ s.toList = []›
        rw [← HB.out, e1, decide_eq_true ‹(s.size : Int) ≤ 100›]
        rfl
      · go_ret
        refine ⟨ret_bool ?_, hbw⟩
        rw [← HB.out, decide_eq_false (p := (s.size : Int) ≤ 100) (by omega)]
        simp
end Go.Proofs.YtkjodleggfacbaaDoor.Wch
