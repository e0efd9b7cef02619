/- The walks over the document's digits and kind (chapter 31). -/
import Derived.Test.YtakccaldcolbmaaGreatDoorLinesRefT
import Derived.Test.YtakccaldcolbmaaGreatDoorLinesSh
import Derived.Laws.IdiomStrings
namespace Go.Proofs.YtakccaldcolbmaaGreatDoor.Wln
open Go Go.RowKit Go.Proofs.YtakccaldcolbmaaGreatDoor.Kb

/-- a new slice of one byte as a text -/
theorem conv_one (w : World) (c : UInt8) (n : Int) (hn : n = (c.toNat : Int)) : (convert 46 9 (.slice (some ⟨w.heap.size, 0, none⟩) 1 1)).run Tryz.prog (w.alloc (.cells #[.int .u8 n] 5)) = .ok (.string ⟨#[c]⟩) (w.alloc (.cells #[.int .u8 n] 5)) := by
  subst hn
  refine run_convert_bytes_back _ _ _ 5 _ 1 [c] Tryz.underlying46 Tryz.underlying5 Tryz.underlying9 (fun j hj => ?_)
  obtain rfl : j = 0 := by simp at hj; exact hj
  have ha : (⟨w.heap.size, 0, none⟩ : Addr).add 0 = ⟨w.heap.size, 0, none⟩ := by unfold Addr.add; rfl
  rw [ha, World.cell?_alloc_new]
  rfl
def preD (m : Nat) : List UInt8 := if m = 0 then [] else Lib.decDigits m
theorem preD_step (m : Nat) (h : 0 < m) : preD m = preD (m / 10) ++ [UInt8.ofNat (48 + m % 10)] := by
  unfold preD
  rw [if_neg (by omega), Lib.decDigits]
  by_cases h10 : m < 10
  · rw [dif_pos h10, if_pos (by omega), Nat.mod_eq_of_lt h10]
    rfl
  · rw [dif_neg h10, if_neg (by omega)]
theorem preD_first (m : Nat) : Lib.decDigits m = preD (m / 10) ++ [UInt8.ofNat (48 + m % 10)] := by
  unfold preD
  rw [Lib.decDigits]
  by_cases h10 : m < 10
  · rw [dif_pos h10, if_pos (by omega), Nat.mod_eq_of_lt h10]
    rfl
  · rw [dif_neg h10, if_neg (by omega)]
theorem dec_len21 (m : Nat) (h : m ≤ 9223372036854775808) : (Lib.decDigits m).length ≤ 21 := by
  by_cases hm : m ≤ 9223372036854775807
  · have := Lib.itoa_length_le m (by omega) (by omega)
    rwa [show Lib.itoa (m : Int) = Lib.decDigits m by unfold Lib.itoa; rw [if_neg (by omega)]; rfl] at this
  · have := Lib.itoa_length_le (-(m : Int)) (by omega) (by omega)
    rw [show Lib.itoa (-(m : Int)) = 45 :: Lib.decDigits m by unfold Lib.itoa; rw [if_pos (by omega)]; simp] at this
    simp at this
    omega
/-- the loop of digits: what has been written is the number's end -/
def Dig (U m : Nat) (y : ByteArray) : Prop := (y = ⟨#[]⟩ ∧ m = U) ∨ (0 < y.size ∧ preD m ++ y.data.toList = Lib.decDigits U)
theorem Dig.step {U m : Nat} {y : ByteArray} (h : Dig U m y) (hm : 0 < m ∨ y = ⟨#[]⟩) : Dig U (m / 10) (⟨#[UInt8.ofNat (48 + m % 10)]⟩ ++ y) := by
  refine .inr ⟨by rw [ByteArray.size_append]; show 0 < 1 + _; omega, ?_⟩
  rw [ByteArray.data_append, Array.toList_append]
  rcases h with ⟨rfl, rfl⟩ | ⟨_, h⟩
  · rw [preD_first]
    rfl
  · rcases hm with hm | rfl
    · rw [← h, preD_step m hm, List.append_assoc]
    · rename_i h0
      exact absurd h0 (by decide)
theorem Dig.size {U m : Nat} {y : ByteArray} (h : Dig U m y) (hU : U ≤ 9223372036854775808) : y.size ≤ 21 := by
  rcases h with ⟨rfl, _⟩ | ⟨_, h⟩
  · exact Nat.zero_le _
  · have := dec_len21 U hU
    rw [← h, List.length_append, size_len] at this
    omega
theorem dig_pos {y : ByteArray} {D : List UInt8} (h : y.data.toList = D) : Ending.returned (.string y) = .returned (.string ⟨D.toArray⟩) := by rw [← h]
theorem dig_neg {y : ByteArray} {D : List UInt8} (h : y.data.toList = D) : Ending.returned (.string (⟨#[45]⟩ ++ y)) = .returned (.string ⟨(45 :: D).toArray⟩) := by
  rw [show (⟨#[45]⟩ ++ y : ByteArray) = ⟨(45 :: D).toArray⟩ from ByteArray.ext (Array.ext' (by simp [← h]))]
set_option maxRecDepth 100000 in
set_option maxHeartbeats 2000000 in
theorem refdigits_any (n : Int) (w : World) (h0 : -9223372036854775808 ≤ n) (h1 : n ≤ 9223372036854775807) :
    Calls Tryz.prog 22 #[.int .i64 n] w fun e w' => e = .returned (.string ⟨(Lib.itoa n).toArray⟩) ∧ Below w.heap.size w w' := by
  by_cases hn : n < 0
  · obtain ⟨U, hU⟩ : ∃ U : Nat, n = -(U : Int) := ⟨n.natAbs, by omega⟩
    have e1 : IntKind.u64.wrap n = 18446744073709551616 - (U : Int) := by rw [IntKind.wrap_u64]; omega
    have e2 : IntKind.u64.wrap (-(18446744073709551616 - (U : Int))) = (U : Int) := by rw [IntKind.wrap_u64]; omega
    have hUb : U ≤ 9223372036854775808 := by omega
    have hit : Lib.itoa n = 45 :: Lib.decDigits U := by unfold Lib.itoa; rw [if_pos hn, hU]; simp
    rw [hit]
    clear hU hit
    go_enter Tryz.func22, Tryz.ntmps22
    go_wp2
    go_loopw [3, 4] (fun i s wx => ∃ (m : Nat) (y : ByteArray), i = .int .u64 m ∧ s = .string y ∧ m ≤ U ∧ Below w.heap.size w wx ∧ Hid (Dig U m y)) (fun i s _ => (intOf i).toNat + (match s with | .string y => if y.size = 0 then 1 else 0 | _ => 0))
    case atStart => exact ⟨U, ⟨#[]⟩, rfl, rfl, Nat.le_refl _, Below.refl _ _, .inl ⟨rfl, rfl⟩⟩
    case round =>
      obtain ⟨m, y, rfl, rfl, hm, hb, H⟩ := hrel
      have hys := H.out.size hUb
      by_cases h0m : 0 < m
      · have hd := H.out.step (.inl h0m)
        have hbn : (48 + (m : Int) % 10) = ((UInt8.ofNat (48 + m % 10)).toNat : Int) := by simp only [UInt8.toNat_ofNat']; omega
        generalize UInt8.ofNat (48 + m % 10) = bt at hd hbn
        have H1 := Lib.hid hd
        have w1 : IntKind.u64.wrap (48 + (m : Int) % 10) = 48 + (m : Int) % 10 := by rw [IntKind.wrap_u64]; omega
        have w2 : IntKind.u8.wrap (48 + (m : Int) % 10) = 48 + (m : Int) % 10 := by rw [IntKind.wrap_u8]; omega
        have hcv := conv_one wr bt (48 + (m : Int) % 10) hbn
        have hz : (⟨#[bt]⟩ ++ y : ByteArray).size = 1 + y.size := by rw [ByteArray.size_append]; rfl
        have i0 : (0 : Int) < (m : Int) := by omega
        clear hd H hbn
        go_wp2
        go_roundw
        case rel => exact ⟨m / 10, ⟨#[bt]⟩ ++ y, by go_num, rfl, by omega, hb.alloc hb.size _, H1⟩
        case measure => simp [intOf, hz]; split <;> omega
      · obtain rfl : m = 0 := by omega
        by_cases hy : y = ⟨#[]⟩
        · subst hy
          have H1 := Lib.hid (show Dig U 0 (⟨#[48]⟩ ++ ⟨#[]⟩) from H.out.step (.inr rfl))
          have hcv := conv_one wr 48 48 rfl
          clear H
          go_wp2
          go_roundw
          case rel => exact ⟨0, ⟨#[48]⟩ ++ ⟨#[]⟩, rfl, rfl, by omega, hb.alloc hb.size _, H1⟩
          case measure => first | exact (by decide) | (simp [intOf]; done)
        · have H1 : Hid (y.data.toList = Lib.decDigits U) := by
            rcases H.out with ⟨h, _⟩ | ⟨_, h⟩
            · exact absurd h hy
            · exact Lib.hid (by simpa [preD] using h)
          have e3 : y.toList.isEmpty = false := by
            rw [ByteArray.toList_eq]
            cases h : y.data.toList with
            | nil => exact absurd (ByteArray.ext (Array.ext' h)) hy
            | cons => rfl
          clear H hy
          go_wp2
          go_ret
          exact ⟨dig_neg H1.out, hb⟩
  · obtain ⟨U, hU⟩ : ∃ U : Nat, n = (U : Int) := ⟨n.toNat, by omega⟩
    have e1 : IntKind.u64.wrap n = (U : Int) := by rw [IntKind.wrap_u64]; omega
    have hUb : U ≤ 9223372036854775808 := by omega
    have hit : Lib.itoa n = Lib.decDigits U := by unfold Lib.itoa; rw [if_neg hn, hU]; rfl
    rw [hit]
    clear hU hit
    go_enter Tryz.func22, Tryz.ntmps22
    go_wp2
    go_loopw [3, 4] (fun i s wx => ∃ (m : Nat) (y : ByteArray), i = .int .u64 m ∧ s = .string y ∧ m ≤ U ∧ Below w.heap.size w wx ∧ Hid (Dig U m y)) (fun i s _ => (intOf i).toNat + (match s with | .string y => if y.size = 0 then 1 else 0 | _ => 0))
    case atStart => exact ⟨U, ⟨#[]⟩, rfl, rfl, Nat.le_refl _, Below.refl _ _, .inl ⟨rfl, rfl⟩⟩
    case round =>
      obtain ⟨m, y, rfl, rfl, hm, hb, H⟩ := hrel
      have hys := H.out.size hUb
      by_cases h0m : 0 < m
      · have hd := H.out.step (.inl h0m)
        have hbn : (48 + (m : Int) % 10) = ((UInt8.ofNat (48 + m % 10)).toNat : Int) := by simp only [UInt8.toNat_ofNat']; omega
        generalize UInt8.ofNat (48 + m % 10) = bt at hd hbn
        have H1 := Lib.hid hd
        have w1 : IntKind.u64.wrap (48 + (m : Int) % 10) = 48 + (m : Int) % 10 := by rw [IntKind.wrap_u64]; omega
        have w2 : IntKind.u8.wrap (48 + (m : Int) % 10) = 48 + (m : Int) % 10 := by rw [IntKind.wrap_u8]; omega
        have hcv := conv_one wr bt (48 + (m : Int) % 10) hbn
        have hz : (⟨#[bt]⟩ ++ y : ByteArray).size = 1 + y.size := by rw [ByteArray.size_append]; rfl
        have i0 : (0 : Int) < (m : Int) := by omega
        clear hd H hbn
        go_wp2
        go_roundw
        case rel => exact ⟨m / 10, ⟨#[bt]⟩ ++ y, by go_num, rfl, by omega, hb.alloc hb.size _, H1⟩
        case measure => simp [intOf, hz]; split <;> omega
      · obtain rfl : m = 0 := by omega
        by_cases hy : y = ⟨#[]⟩
        · subst hy
          have H1 := Lib.hid (show Dig U 0 (⟨#[48]⟩ ++ ⟨#[]⟩) from H.out.step (.inr rfl))
          have hcv := conv_one wr 48 48 rfl
          clear H
          go_wp2
          go_roundw
          case rel => exact ⟨0, ⟨#[48]⟩ ++ ⟨#[]⟩, rfl, rfl, by omega, hb.alloc hb.size _, H1⟩
          case measure => first | exact (by decide) | (simp [intOf]; done)
        · have H1 : Hid (y.data.toList = Lib.decDigits U) := by
            rcases H.out with ⟨h, _⟩ | ⟨_, h⟩
            · exact absurd h hy
            · exact Lib.hid (by simpa [preD] using h)
          have e3 : y.toList.isEmpty = false := by
            rw [ByteArray.toList_eq]
            cases h : y.data.toList with
            | nil => exact absurd (ByteArray.ext (Array.ext' h)) hy
            | cons => rfl
          clear H hy
          go_wp2
          go_ret
          exact ⟨dig_pos H1.out, hb⟩
end Go.Proofs.YtakccaldcolbmaaGreatDoor.Wln
