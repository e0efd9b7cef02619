/- The walk over the program's Blank. -/
import Derived.Test.YtlemdhfekdiaeaaGreatDoorCharsWalksC
namespace Go.Proofs.YtlemdhfekdiaeaaGreatDoor.Wch
open Go Go.RowKit

theorem info_set : (Tryz.prog.info? 105).map (fun i => (i.zero, i.size)) = some (some (.agg (Array.replicate 256 (.bool false))), 256) := by kernel_rfl
theorem trim_any (s : ByteArray) (w : World) (hs : s.size ≤ 9223372036854775807) :
    Calls Tryz.prog 74 #[.string s, .string ⟨#[32, 9, 10, 13]⟩] w fun e w' => e = .returned (.string ⟨(Lib.trimS s.data.toList [32, 9, 10, 13]).toArray⟩) ∧ Below w.heap.size w w' :=
  Any.strings_Trim_laid Tryz.laysTrim info_set s ⟨#[32, 9, 10, 13]⟩ w hs (by decide) (ascii_of_all (by decide))
theorem isEmpty_dropWhile {α : Type} (p : α → Bool) : ∀ l : List α, (l.dropWhile p).isEmpty = l.all p
  | [] => rfl
  | c :: t => by
    simp only [List.dropWhile, List.all_cons]
    cases h : p c with
    | true => simpa using isEmpty_dropWhile p t
    | false => rfl
theorem all_dropWhile {α : Type} (p : α → Bool) : ∀ l : List α, (l.dropWhile p).all p = l.all p
  | [] => rfl
  | c :: t => by
    simp only [List.dropWhile]
    cases h : p c with
    | true => simp only [List.all_cons, h, Bool.true_and]; exact all_dropWhile p t
    | false => rfl
theorem trim_blank (l : List UInt8) : (Lib.trimS l [32, 9, 10, 13]).isEmpty = Pch.blankL l := by
  have hc : (fun c : UInt8 => List.contains [32, 9, 10, 13] c) = Pch.blankC := by
    funext c
    simp only [List.contains, List.elem, Pch.blankC]
    cases (c == 9) <;> cases (c == 10) <;> cases (c == 13) <;> cases (c == 32) <;> rfl
  unfold Lib.trimS Lib.trimLeftS Lib.trimRightS
  rw [hc, isEmpty_dropWhile, List.all_reverse, all_dropWhile, List.all_reverse]
  rfl
theorem blank_any (s : ByteArray) (w : World) (hs : s.size ≤ 9223372036854775807) :
    Calls Tryz.prog 37 #[.string s] w fun e w' => e = .returned (.bool (Pch.blankL s.data.toList)) ∧ Below w.heap.size w w' := by
  rw [← trim_blank]
  have cT := fun wx => trim_any s wx hs
  generalize Lib.trimS s.data.toList [32, 9, 10, 13] = L at cT
  have CT := Lib.hid cT
  clear cT
  go_enter Tryz.func37, Tryz.ntmps37
  go_wp2_with (go_at_call 74; refine (CT.out _).mono ?_; rintro e w' ⟨rfl, hb⟩)
  go_ret
  exact ⟨rfl, hb⟩
end Go.Proofs.YtlemdhfekdiaeaaGreatDoor.Wch
