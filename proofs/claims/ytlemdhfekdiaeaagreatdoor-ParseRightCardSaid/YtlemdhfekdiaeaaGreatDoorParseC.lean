/- The program's parser: line ends, a character by its number, a reference. -/
import Derived.Test.YtlemdhfekdiaeaaGreatDoorParseB
import Derived.Test.YtlemdhfekdiaeaaGreatDoorParseS
namespace Go.Proofs.YtlemdhfekdiaeaaGreatDoor.Wps
open Go Go.RowKit Go.Proofs.YtlemdhfekdiaeaaGreatDoor.Kb Go.Proofs.YtlemdhfekdiaeaaGreatDoor.Wch

theorem repl_call (v old new : ByteArray) (w : World) (hv : v.size ≤ 65536) (h1 : 1 ≤ old.size) (hn : new.size = 1) (he : Ev w) :
    Calls Tryz.prog 119 #[.string v, .string old, .string new] w fun e w' => e = .returned (.string ⟨(Lib.replaceAll v.data.toList old.data.toList new.data.toList).toArray⟩) ∧ Below w.heap.size w w' := by
  obtain ⟨m, hm⟩ := he.mx
  have h2 := Lib.countB_mul_le old h1 v.size v (Nat.le_refl _)
  refine Any.strings_ReplaceAll Tryz.lays155 Tryz.Builder_Extra_155 v old new m w (by omega) hm h1 ?_
  rw [hn]
  have h3 : Lib.countB v old ≤ Lib.countB v old * old.size := Nat.le_mul_of_pos_right _ h1
  omega
theorem lines_r (v : ByteArray) (w : World) (hv : v.size ≤ 65536) (he : Ev w) :
    Calls Tryz.prog 82 #[.string v] w fun e w' => e = .returned (strV (Ppa.said v.data.toList)) ∧ Below w.heap.size w w' := by
  have C1 := Kept.mk (repl_call v ⟨#[13, 10]⟩ ⟨#[10]⟩ w hv (by decide) rfl he)
  have hs := Ppa.said_prog v.data.toList
  have hl := Ppa.crlf_length _ v.data.toList (Nat.le_refl _)
  rw [size_len, ← Ppa.repl_crlf] at hl
  generalize hX : Lib.replaceAll v.data.toList [13, 10] [10] = X at hs hl
  have CX : Kept (Calls Tryz.prog 119 #[.string v, .string ⟨#[13, 10]⟩, .string ⟨#[10]⟩] w fun e w' => e = .returned (.string ⟨X.toArray⟩) ∧ Below w.heap.size w w') := ⟨by rw [← hX]; exact C1.out⟩
  have HS := Kept.mk hs
  have HE := Kept.mk he
  have hz : (⟨X.toArray⟩ : ByteArray).size ≤ 65536 := by show X.toArray.size ≤ _; rw [List.size_toArray]; omega
  clear hs he C1 hX hl hv
  go_enter Tryz.func82, Tryz.ntmps82
  go_wp2_with (first | (go_at_call 119; refine CX.out.mono ?_; rintro e w1 ⟨rfl, hb1⟩; have B1 := Kept.mk hb1; have E1 := Kept.mk (HE.out.below hb1); clear hb1 CX) | (go_at_call 119; refine (repl_call ⟨X.toArray⟩ ⟨#[13]⟩ ⟨#[10]⟩ w1 hz (by decide) rfl E1.out).mono ?_; rintro e w2 ⟨rfl, hb2⟩; have B2 := Kept.mk hb2; clear hb2))
  go_ret
  exact ⟨by rw [← HS.out]; rfl, B1.out.trans (B2.out.mono B1.out.size)⟩
/-- what a digit says; -1: it is none -/
def digI (hex : Bool) (c : Int) : Int := if 48 ≤ c ∧ c ≤ 57 then c - 48 else if hex = true ∧ 97 ≤ c ∧ c ≤ 102 then c - 87 else if hex = true ∧ 65 ≤ c ∧ c ≤ 70 then c - 55 else -1
theorem digit_any (hex : Bool) (c : Int) (w : World) (hc : -1 ≤ c) (hc2 : c ≤ 1114111) :
    Calls Tryz.prog 139 #[.int .i32 c, .bool hex] w fun e w' => e = .returned (.int .i32 (digI hex c)) ∧ w' = w := by
  generalize hD : digI hex c = D
  have HD := Kept.mk hD
  clear hD
  by_cases a1 : 48 ≤ c
  · by_cases a2 : c ≤ 57
    · cases hex
      · go_enter Tryz.func139, Tryz.ntmps139
        go_wp2
        go_ret
        exact ⟨ret_i32 (by rw [← HD.out]; unfold digI; simp only [Bool.false_eq_true, false_and, if_false]; (repeat' split) <;> omega), rfl⟩
      · go_enter Tryz.func139, Tryz.ntmps139
        go_wp2
        go_ret
        exact ⟨ret_i32 (by rw [← HD.out]; unfold digI; simp only [true_and]; (repeat' split) <;> omega), rfl⟩
    · cases hex
      · go_enter Tryz.func139, Tryz.ntmps139
        go_wp2
        go_ret
        exact ⟨ret_i32 (by rw [← HD.out]; unfold digI; simp only [Bool.false_eq_true, false_and, if_false]; (repeat' split) <;> omega), rfl⟩
      · by_cases a3 : 97 ≤ c
        · by_cases a4 : c ≤ 102
          · go_enter Tryz.func139, Tryz.ntmps139
            go_wp2
            go_ret
            exact ⟨ret_i32 (by rw [← HD.out]; unfold digI; simp only [true_and]; (repeat' split) <;> omega), rfl⟩
          · have a5 : 65 ≤ c := by omega
            have a6 : ¬ c ≤ 70 := by omega
            go_enter Tryz.func139, Tryz.ntmps139
            go_wp2
            go_ret
            exact ⟨ret_i32 (by rw [← HD.out]; unfold digI; simp only [true_and]; (repeat' split) <;> omega), rfl⟩
        · by_cases a5 : 65 ≤ c
          · by_cases a6 : c ≤ 70
            · go_enter Tryz.func139, Tryz.ntmps139
              go_wp2
              go_ret
              exact ⟨ret_i32 (by rw [← HD.out]; unfold digI; simp only [true_and]; (repeat' split) <;> omega), rfl⟩
            · go_enter Tryz.func139, Tryz.ntmps139
              go_wp2
              go_ret
              exact ⟨ret_i32 (by rw [← HD.out]; unfold digI; simp only [true_and]; (repeat' split) <;> omega), rfl⟩
          · go_enter Tryz.func139, Tryz.ntmps139
            go_wp2
            go_ret
            exact ⟨ret_i32 (by rw [← HD.out]; unfold digI; simp only [true_and]; (repeat' split) <;> omega), rfl⟩
  · cases hex
    · go_enter Tryz.func139, Tryz.ntmps139
      go_wp2
      go_ret
      exact ⟨ret_i32 (by rw [← HD.out]; unfold digI; simp only [Bool.false_eq_true, false_and, if_false]; (repeat' split) <;> omega), rfl⟩
    · have a3 : ¬ 97 ≤ c := by omega
      have a5 : ¬ 65 ≤ c := by omega
      go_enter Tryz.func139, Tryz.ntmps139
      go_wp2
      go_ret
      exact ⟨ret_i32 (by rw [← HD.out]; unfold digI; simp only [true_and]; (repeat' split) <;> omega), rfl⟩
end Go.Proofs.YtlemdhfekdiaeaaGreatDoor.Wps
