/- The walks over the document's Texts and Name. -/
import Derived.Test.YtfamljigcffngaaGreatDoorCharsWalksE
namespace Go.Proofs.YtfamljigcffngaaGreatDoor.Wch
open Go Go.RowKit Go.PlainAid

theorem nextAt_if (s : ByteArray) (pos : Nat) : nextAt s pos = if Pch.okR (Utf8.decode s pos) = true then Utf8.decode s pos else (0, 0) := by
  unfold nextAt Pch.nextL
  rw [Lib.decodeL_drop]
theorem decode_fits (s : ByteArray) (pos : Nat) (h : pos < s.size) : pos + (Utf8.decode s pos).2 ≤ s.size := by
  have hl := size_len s
  have hne : s.data.toList.drop pos ≠ [] := by
    intro h0
    have := congrArg List.length h0
    rw [List.length_drop, hl] at this
    simp at this
    omega
  have := Lib.decodeL_le _ hne
  rw [Lib.decodeL_drop, List.length_drop, hl] at this
  omega
theorem texts_at (s : ByteArray) (pos : Nat) (h : pos < s.size) : Pch.textsL (s.data.toList.drop pos) = (Pch.okR (Utf8.decode s pos) && Pch.charB (Utf8.decode s pos).1 && Pch.textsL (s.data.toList.drop (pos + (Utf8.decode s pos).2))) := by
  unfold Pch.textsL
  rw [runes_at s pos h, List.all_cons]
/-- the document's loop over a name: what is left of it from a place on -/
def nameFrom (s : ByteArray) (pos : Nat) : Bool := if pos = 0 then Pch.headB (Pch.runes s.data.toList) else (Pch.runes (s.data.toList.drop pos)).all fun p => Pch.okR p && Pch.nameB p.1
theorem name_head (s : ByteArray) (h : 0 < s.size) : nameFrom s 0 = (Pch.okR (Utf8.decode s 0) && Pch.nameB (Utf8.decode s 0).1 && Pch.startB (Utf8.decode s 0).1 && nameFrom s (0 + (Utf8.decode s 0).2)) := by
  have hw := Lib.width_pos s 0
  have e := runes_at s 0 h
  rw [List.drop_zero] at e
  unfold nameFrom
  rw [if_pos rfl, if_neg (by omega), e, Pch.headB]
  cases hs : Pch.startB ((Utf8.decode s 0).1 : Int)
  · simp
  · rw [Pch.name_of_start hs]
    simp
theorem name_tail (s : ByteArray) (pos : Nat) (h0 : pos ≠ 0) (h : pos < s.size) : nameFrom s pos = (Pch.okR (Utf8.decode s pos) && Pch.nameB (Utf8.decode s pos).1 && nameFrom s (pos + (Utf8.decode s pos).2)) := by
  unfold nameFrom
  rw [if_neg h0, if_neg (by omega), runes_at s pos h, List.all_cons]
theorem name_end (s : ByteArray) (h0 : 0 < s.size) : nameFrom s s.size = true := by
  unfold nameFrom
  rw [if_neg (by omega), runes_end s s.size (by omega)]
  rfl
end Go.Proofs.YtfamljigcffngaaGreatDoor.Wch
