/- The walks over the program's loops over texts: Texts, Name. -/
import Derived.Test.YtlemdhfekdiaeaaGreatDoorCharsWalksB
import Derived.Test.YtlemdhfekdiaeaaGreatDoorShelf
import Derived.Deep.DeepFit
import Derived.Lib.OthersKept
namespace Go.Proofs.YtlemdhfekdiaeaaGreatDoor.Wch
open Go Go.RowKit

theorem cell_lt {w : World} {g i : Nat} {v : Value} (h : w.cell? ⟨g, i, none⟩ = some v) : g < w.heap.size := by
  rcases Nat.lt_or_ge g w.heap.size with hl | hg
  · exact hl
  · simp [World.cell?, Array.getElem?_eq_none hg] at h
/-- what the walks read of the package variables -/
def Env (w : World) : Prop := Tabs w ∧ Lib.Utf8Tabs 2 3 w
theorem utf8_below {a b : Nat} {w w' : World} (h : Lib.Utf8Tabs a b w) (hb : Below w.heap.size w w') : Lib.Utf8Tabs a b w' := by
  refine ⟨fun c hc => ?_, fun i hi => ?_⟩
  · rw [hb.cell (p := ⟨a, c, none⟩) (cell_lt (h.1 c hc))]; exact h.1 c hc
  · rw [hb.cell (p := ⟨b, 2 * i, none⟩) (cell_lt (h.2 i hi).1), hb.cell (p := ⟨b, 2 * i + 1, none⟩) (cell_lt (h.2 i hi).2)]; exact h.2 i hi
theorem Env.below {w w' : World} (h : Env w) (hb : Below w.heap.size w w') : Env w' := ⟨h.1.below hb, utf8_below h.2 hb⟩
theorem size_len (s : ByteArray) : s.data.toList.length = s.size := by rw [Array.length_toList]; rfl
theorem runes_at (s : ByteArray) (pos : Nat) (h : pos < s.size) : Pch.runes (s.data.toList.drop pos) = Utf8.decode s pos :: Pch.runes (s.data.toList.drop (pos + (Utf8.decode s pos).2)) := by
  have hl := size_len s
  have hne : s.data.toList.drop pos ≠ [] := by
    intro h0
    have := congrArg List.length h0
    rw [List.length_drop, hl] at this
    simp at this
    omega
  rw [Pch.runes_step _ hne, Lib.decodeL_drop, List.drop_drop]
theorem runes_end (s : ByteArray) (pos : Nat) (h : ¬ pos < s.size) : Pch.runes (s.data.toList.drop pos) = [] := by
  have hl := size_len s
  rw [List.drop_eq_nil_of_le (by omega)]
  rfl

end Go.Proofs.YtlemdhfekdiaeaaGreatDoor.Wch
