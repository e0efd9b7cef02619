/- The walks over the document's digits and Spell (chapter 22). -/
import Derived.Test.YtfamljigcffngaaDoorLexAwake
import Derived.Laws.IdiomStrings
namespace Go.Proofs.YtfamljigcffngaaDoor.Wlx
open Go Go.RowKit Go.Proofs.YtfamljigcffngaaDoor.Wch

/-- a new slice of one byte as a text -/
theorem conv_one (w : World) (c : UInt8) (n : Int) (hn : n = (c.toNat : Int)) : (convert 46 9 (.slice (some ⟨w.heap.size, 0, none⟩) 1 1)).run Tryd.prog (w.alloc (.cells #[.int .u8 n] 5)) = .ok (.string ⟨#[c]⟩) (w.alloc (.cells #[.int .u8 n] 5)) := by
  subst hn
  refine run_convert_bytes_back _ _ _ 5 _ 1 [c] Tryd.underlying46 Tryd.underlying5 Tryd.underlying9 (fun j hj => ?_)
  obtain rfl : j = 0 := by simp at hj; exact hj
  have ha : (⟨w.heap.size, 0, none⟩ : Addr).add 0 = ⟨w.heap.size, 0, none⟩ := by unfold Addr.add; rfl
  rw [ha, World.cell?_alloc_new]
  rfl
def preD (m : Nat) : List UInt8 := if m = 0 then [] else Lib.decDigits m
theorem preD_step (m : Nat) (h : 0 < m) : preD m = preD (m / 10) ++ [UInt8.ofNat (48 + m % 10)] := by
  unfold preD
  rw [if_neg (by omega), Lib.decDigits]
  by_cases h10 : m < 10
  · rw [dif_pos h10, if_pos (by omega), Nat.mod_eq_of_lt h10]
    rfl
  · rw [dif_neg h10, if_neg (by omega)]
set_option maxRecDepth 100000 in
set_option maxHeartbeats 1000000 in
theorem digits_any (n : Nat) (w : World) (h0 : 0 < n) (h1 : (n : Int) ≤ 9223372036854775807) :
    Calls Tryd.prog 19 #[.int .i64 n] w fun e w' => e = .returned (.string ⟨(Lib.itoa n).toArray⟩) ∧ Below w.heap.size w w' := by
  have hlen := Lib.itoa_length_le n (by omega) h1
  have hit : Lib.itoa n = preD n := by unfold Lib.itoa preD; rw [if_neg (by omega), if_neg (by omega)]; rfl
  rw [hit] at hlen ⊢
  generalize hD : preD n = D at hlen
  have HD := Kept.mk hD
  clear hD hit
  have hz : ((n : Int) == 0) = false := by simp; omega
  go_enter Tryd.func19, Tryd.ntmps19
  go_wp2
  go_loopw [0, 3] (fun i s wx => ∃ (m : Nat) (y : ByteArray), m ≤ n ∧ i = .int .i64 m ∧ s = .string y ∧ Below w.heap.size w wx ∧ Hid (preD m ++ y.data.toList = D)) (fun i _ _ => (intOf i).toNat)
  case atStart => exact ⟨n, ⟨#[]⟩, Nat.le_refl _, rfl, rfl, Below.refl _ _, by show _ = _; rw [HD.out]; simp⟩
  case round =>
    obtain ⟨m, y, hm, rfl, rfl, hb, H⟩ := hrel
    by_cases hp : 0 < m
    · have h := H.out
      rw [preD_step m hp, List.append_assoc] at h
      have hys : y.size ≤ 21 := by
        have := congrArg List.length h
        rw [List.length_append, List.length_append, size_len] at this
        omega
      have hbn : (48 + (m : Int) % 10) = ((UInt8.ofNat (48 + m % 10)).toNat : Int) := by simp only [UInt8.toNat_ofNat']; omega
      generalize UInt8.ofNat (48 + m % 10) = bt at h hbn
      have H1 := Lib.hid h
      have i0 : (0 : Int) < (m : Int) := by omega
      have hcv := conv_one wr bt (48 + (m : Int) % 10) hbn
      clear h H hbn
      go_wp2
      go_roundw
      case rel => exact ⟨m / 10, ⟨#[bt]⟩ ++ y, by omega, by go_num, rfl, hb.alloc hb.size _, by show _ = _; rw [Joins.data_append]; exact H1.out⟩
      case measure => simp [intOf]; omega
    · obtain rfl : m = 0 := by omega
      have H1 : Hid (y.data.toList = D) := H.out
      clear H
      go_wp2
      go_ret
      exact ⟨ret_str (mk_of H1.out), hb⟩
theorem digits_zero (w : World) : Calls Tryd.prog 19 #[.int .i64 0] w fun e w' => e = .returned (.string ⟨(Lib.itoa 0).toArray⟩) ∧ Below w.heap.size w w' := by
  have hz : (⟨(Lib.itoa 0).toArray⟩ : ByteArray) = ⟨#[48]⟩ := by
    have : Lib.itoa 0 = [48] := by unfold Lib.itoa; rw [if_neg (by decide), Lib.decDigits]; rfl
    rw [this]
  rw [hz]
  go_enter Tryd.func19, Tryd.ntmps19
  go_wp2
  go_ret
  exact ⟨rfl, Below.refl _ _⟩
theorem digits_all (n : Int) (w : World) (h0 : 0 ≤ n) (h1 : n ≤ 9223372036854775807) : Calls Tryd.prog 19 #[.int .i64 n] w fun e w' => e = .returned (.string ⟨(Lib.itoa n).toArray⟩) ∧ Below w.heap.size w w' := by
  obtain ⟨m, rfl⟩ := Int.eq_ofNat_of_zero_le h0
  rcases Nat.eq_zero_or_pos m with rfl | hm
  · exact digits_zero w
  · exact digits_any m w hm h1
end Go.Proofs.YtfamljigcffngaaDoor.Wlx
