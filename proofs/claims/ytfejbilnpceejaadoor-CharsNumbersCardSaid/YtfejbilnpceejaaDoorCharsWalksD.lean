/- The walks over Blank, and over the document's own functions: Next, Texts, Name, Blank. -/
import Derived.Test.YtfejbilnpceejaaDoorCharsWalksC
namespace Go.Proofs.YtfejbilnpceejaaDoor.Wch
open Go Go.RowKit

theorem info_set : (Tryd.prog.info? 61).map (fun i => (i.zero, i.size)) = some (some (.agg (Array.replicate 256 (.bool false))), 256) := by kernel_rfl
theorem trim_any (s : ByteArray) (w : World) (hs : s.size ≤ 9223372036854775807) :
    Calls Tryd.prog 26 #[.string s, .string ⟨#[32, 9, 10, 13]⟩] w fun e w' => e = .returned (.string ⟨(Lib.trimS s.data.toList [32, 9, 10, 13]).toArray⟩) ∧ Below w.heap.size w w' :=
  Any.strings_Trim_laid Tryd.laysTrim info_set s ⟨#[32, 9, 10, 13]⟩ w hs (by decide) (ascii_of_all (by decide))
theorem isEmpty_dropWhile {α : Type} (p : α → Bool) : ∀ l : List α, (l.dropWhile p).isEmpty = l.all p
  | [] => rfl
  | c :: t => by
    simp only [List.dropWhile, List.all_cons]
    cases h : p c with
    | true => simpa using isEmpty_dropWhile p t
    | false => rfl
theorem all_dropWhile {α : Type} (p : α → Bool) : ∀ l : List α, (l.dropWhile p).all p = l.all p
  | [] => rfl
  | c :: t => by
    simp only [List.dropWhile]
    cases h : p c with
    | true => simp only [List.all_cons, h, Bool.true_and]; exact all_dropWhile p t
    | false => rfl
theorem trim_blank (l : List UInt8) : (Lib.trimS l [32, 9, 10, 13]).isEmpty = Pch.blankL l := by
  have hc : (fun c : UInt8 => List.contains [32, 9, 10, 13] c) = Pch.blankC := by
    funext c
    simp only [List.contains, List.elem, Pch.blankC]
    cases (c == 9) <;> cases (c == 10) <;> cases (c == 13) <;> cases (c == 32) <;> rfl
  unfold Lib.trimS Lib.trimLeftS Lib.trimRightS
  rw [hc, isEmpty_dropWhile, List.all_reverse, all_dropWhile, List.all_reverse]
  rfl
theorem blank_any (s : ByteArray) (w : World) (hs : s.size ≤ 9223372036854775807) :
    Calls Tryd.prog 19 #[.string s] w fun e w' => e = .returned (.bool (Pch.blankL s.data.toList)) ∧ Below w.heap.size w w' := by
  rw [← trim_blank]
  have cT := fun wx => trim_any s wx hs
  generalize Lib.trimS s.data.toList [32, 9, 10, 13] = L at cT
  have CT := Lib.hid cT
  clear cT
  go_enter Tryd.func19, Tryd.ntmps19
  go_wp2_with (go_at_call 26; refine (CT.out _).mono ?_; rintro e w' ⟨rfl, hb⟩)
  go_ret
  exact ⟨rfl, hb⟩

theorem blank_loop (s : ByteArray) (k : Nat) (hk : k < s.size) : Pch.blankL (s.data.toList.drop k) = (Pch.blankC s[k] && Pch.blankL (s.data.toList.drop (k + 1))) := by
  have hl := size_len s
  have hlt : k < s.data.toList.length := by omega
  rw [List.drop_eq_getElem_cons hlt]
  rfl
theorem blankC_of (c : UInt8) : Pch.blankC c = (((c.toNat : Int) == 9) || ((c.toNat : Int) == 10) || ((c.toNat : Int) == 13) || ((c.toNat : Int) == 32)) := by
  have h : ∀ n : Nat, n < 256 → (c == n.toUInt8) = ((c.toNat : Int) == (n : Int)) := by
    intro n hn
    rw [Bool.eq_iff_iff, beq_iff_eq, beq_iff_eq]
    constructor
    · rintro rfl
      simp [Nat.toUInt8, Nat.mod_eq_of_lt hn]
    · intro e
      have : c.toNat = n := by omega
      subst this
      simp
  have h9 := h 9 (by omega)
  have h10 := h 10 (by omega)
  have h13 := h 13 (by omega)
  have h32 := h 32 (by omega)
  show (c == 9 || c == 10 || c == 13 || c == 32) = _
  exact congr (congrArg _ (congr (congrArg _ (congr (congrArg _ h9) h10)) h13)) h32
theorem refBlank_any (s : ByteArray) (w : World) (hs : s.size ≤ 9223372036854775807) :
    Calls Tryd.prog 20 #[.string s] w fun e w' => e = .returned (.bool (Pch.blankL s.data.toList)) ∧ w = w' := by
  generalize hB : Pch.blankL s.data.toList = B
  have HB := Lib.hid hB
  clear hB
  go_enter Tryd.func20, Tryd.ntmps20
  go_wp2
  go_loop [3] (fun i => ∃ k : Nat, k ≤ s.size ∧ i = .int .i64 k ∧ Hid (Pch.blankL (s.data.toList.drop k) = B)) (fun i => s.size - (intOf i).toNat)
  case atStart => exact ⟨0, Nat.zero_le _, rfl, HB.out⟩
  case round =>
    obtain ⟨k, hk, rfl, H⟩ := hrel
    by_cases hlt : k < s.size
    · have h := H.out
      rw [blank_loop s k hlt] at h
      by_cases hc : ((s[k].toNat : Int) = 9 ∨ (s[k].toNat : Int) = 10 ∨ (s[k].toNat : Int) = 13 ∨ (s[k].toNat : Int) = 32)
      · have e : Pch.blankC s[k] = true := by rw [blankC_of]; simpa [or_assoc] using hc
        rw [e, Bool.true_and] at h
        have H2 := Lib.hid h
        clear h H HB e
        go_wp2
        all_goals first
          | (go_round
             case rel => exact ⟨k + 1, by omega, by go_num, H2.out⟩
             case measure => simp [intOf]; omega)
          | (exfalso; simp at *; omega)
      · have e : Pch.blankC s[k] = false := by rw [blankC_of]; simpa [and_assoc] using hc
        rw [e, Bool.false_and] at h
        have H2 := Lib.hid h
        clear h H HB e
        go_wp2
        all_goals first
          | (go_ret
             exact ⟨ret_bool H2.out, rfl⟩)
          | (exfalso; simp at *; omega)
    · have h1 := H.out
      rw [List.drop_eq_nil_of_le (by rw [size_len]; omega)] at h1
      have H1 : Hid (B = true) := h1.symm
      clear h1 H
      go_wp2
      go_ret
      exact ⟨ret_bool H1.out.symm, rfl⟩
end Go.Proofs.YtfejbilnpceejaaDoor.Wch
