/- The walks over Blank, and over the document's own functions: Next, Texts, Name, Blank. -/
import Derived.Test.YtkjodleggfacbaaDoorCharsWalksC
namespace Go.Proofs.YtkjodleggfacbaaDoor.Wch
open Go Go.RowKit

theorem blank_loop (s : ByteArray) (k : Nat) (hk : k < s.size) : Pch.blankL (s.data.toList.drop k) = (Pch.blankC s[k] && Pch.blankL (s.data.toList.drop (k + 1))) := by
  have hl := size_len s
  have hlt : k < s.data.toList.length := by omega
  rw [List.drop_eq_getElem_cons hlt]
  rfl
theorem blankC_of (c : UInt8) : Pch.blankC c = (((c.toNat : Int) == 9) || ((c.toNat : Int) == 10) || ((c.toNat : Int) == 13) || ((c.toNat : Int) == 32)) := by
  have h : ∀ n : Nat, n < 256 → (c == n.toUInt8) = ((c.toNat : Int) == (n : Int)) := by
    intro n hn
    rw [Bool.eq_iff_iff, beq_iff_eq, beq_iff_eq]
    constructor
    · rintro rfl
      simp [Nat.toUInt8, Nat.mod_eq_of_lt hn]
    · intro e
      have : c.toNat = n := by omega
      subst this
      simp
  have h9 := h 9 (by omega)
  have h10 := h 10 (by omega)
  have h13 := h 13 (by omega)
  have h32 := h 32 (by omega)
  show (c == 9 || c == 10 || c == 13 || c == 32) = _
  exact congr (congrArg _ (congr (congrArg _ (congr (congrArg _ h9) h10)) h13)) h32
theorem refBlank_any (s : ByteArray) (w : World) (hs : s.size ≤ 9223372036854775807) :
    Calls Tryd.prog 58 #[.string s] w fun e w' => e = .returned (.bool (Pch.blankL s.data.toList)) ∧ w = w' := by
  generalize hB : Pch.blankL s.data.toList = B
  have HB := Lib.hid hB
  clear hB
  go_enter Tryd.func58, Tryd.ntmps58
  go_wp2
  go_loop [3] (fun i => ∃ k : Nat, k ≤ s.size ∧ i = .int .i64 k ∧ Hid (Pch.blankL (s.data.toList.drop k) = B)) (fun i => s.size - (intOf i).toNat)
  case atStart => exact ⟨0, Nat.zero_le _, rfl, HB.out⟩
  case round =>
    obtain ⟨k, hk, rfl, H⟩ := hrel
    by_cases hlt : k < s.size
    · have h := H.out
      rw [blank_loop s k hlt] at h
      by_cases hc : ((s[k].toNat : Int) = 9 ∨ (s[k].toNat : Int) = 10 ∨ (s[k].toNat : Int) = 13 ∨ (s[k].toNat : Int) = 32)
      · have e : Pch.blankC s[k] = true := by rw [blankC_of]; simpa [or_assoc] using hc
        rw [e, Bool.true_and] at h
        have H2 := Lib.hid h
        clear h H HB e
        go_wp2
        all_goals first
          | (go_round
             case rel => exact ⟨k + 1, by omega, by go_num, H2.out⟩
             case measure => simp [intOf]; omega)
          | (exfalso; simp at *; omega)
      · have e : Pch.blankC s[k] = false := by rw [blankC_of]; simpa [and_assoc] using hc
        rw [e, Bool.false_and] at h
        have H2 := Lib.hid h
        clear h H HB e
        go_wp2
        all_goals first
          | (go_ret
             exact ⟨ret_bool H2.out, rfl⟩)
          | (exfalso; simp at *; omega)
    · have h1 := H.out
      rw [List.drop_eq_nil_of_le (by rw [size_len]; omega)] at h1
      have H1 : Hid (B = true) := h1.symm
      clear h1 H
      go_wp2
      go_ret
      exact ⟨ret_bool H1.out.symm, rfl⟩
end Go.Proofs.YtkjodleggfacbaaDoor.Wch
