/- The walk over the document's own way to read a rune. -/
import Derived.Test.YtlemdhfekdiaeaaGreatDoorCharsWalksC
import Derived.PlainAid
import Derived.LoopN
namespace Go.Proofs.YtlemdhfekdiaeaaGreatDoor.Wch
open Go Go.RowKit Go.PlainAid

/-- the document's Next, over the bytes as numbers -/
def nextAt (s : ByteArray) (pos : Nat) : Nat × Nat := Pch.nextL (s.data.toList.drop pos)
theorem bt_getD (s : ByteArray) (k : Nat) : bt s k = ((s.data.toList.getD k 0).toNat : Int) := by
  unfold bt
  by_cases h : k < s.size
  · rw [dif_pos h]
    have hl := size_len s
    have hlt : k < s.data.toList.length := by omega
    simp only [List.getD, List.getElem?_eq_getElem hlt, Option.getD_some]
    rfl
  · rw [dif_neg h]
    have hl := size_len s
    have : s.data.toList[k]? = none := List.getElem?_eq_none (by omega)
    simp [List.getD, this]
theorem nextAt_eq (s : ByteArray) (pos : Nat) : ∃ b0 b1 b2 b3 : Nat, bt s pos = b0 ∧ bt s (pos + 1) = b1 ∧ bt s (pos + 2) = b2 ∧ bt s (pos + 3) = b3 ∧ nextAt s pos = Pch.nextN (s.size - pos) b0 b1 b2 b3 := by
  refine ⟨_, _, _, _, bt_getD s pos, bt_getD s (pos + 1), bt_getD s (pos + 2), bt_getD s (pos + 3), ?_⟩
  have hd : ∀ i, (s.data.toList.drop pos).getD i 0 = s.data.toList.getD (pos + i) 0 := by
    intro i
    simp [List.getD, List.getElem?_drop]
  unfold nextAt
  rw [Pch.nextL_N, hd, hd, hd, hd, List.length_drop, size_len]
  rfl
theorem ret_pair {x y : Int} {p : Nat × Nat} (h : x = p.1 ∧ y = p.2) : Ending.returned (.tuple #[.int .i32 x, .int .i64 y]) = .returned (.tuple #[.int .i32 p.1, .int .i64 p.2]) := by rw [h.1, h.2]
set_option maxHeartbeats 2000000 in
theorem next_1 (s : ByteArray) (pos : Nat) (w : World) (hp : pos < s.size) (u0 : bt s pos ≤ 127) :
    Calls Tryz.prog 84 #[.string s, .int .i64 pos] w fun e w' => e = .returned (.tuple #[.int .i32 (nextAt s pos).1, .int .i64 (nextAt s pos).2]) ∧ w = w' := by
  obtain ⟨b0, b1, b2, b3, e0, e1, e2, e3, E⟩ := nextAt_eq s pos
  have q0 := bt_nonneg s (pos)
  have p0 := bt_le s (pos)
  have hb := get_bt s
  have X : Hid (bt s pos = b0 ∧ bt s (pos + 1) = b1 ∧ bt s (pos + 2) = b2 ∧ bt s (pos + 3) = b3 ∧ nextAt s pos = Pch.nextN (s.size - pos) b0 b1 b2 b3) := ⟨e0, e1, e2, e3, E⟩
  clear e0 e1 e2 e3 E
  go_enter Tryz.func84, Tryz.ntmps84
  go_wp2
  all_goals
      go_ret2
      refine ⟨ret_pair ?_, rfl⟩
      obtain ⟨e0, e1, e2, e3, E⟩ := X.out
      rw [E]
      unfold Pch.nextN
      clear hb
      repeat' split
      all_goals (simp only; omega)
set_option maxHeartbeats 2000000 in
theorem next_2 (s : ByteArray) (pos : Nat) (w : World) (hs : s.size ≤ 4611686018427387904) (hp : pos < s.size) (l0 : 194 ≤ bt s pos) (u0 : bt s pos ≤ 223) :
    Calls Tryz.prog 84 #[.string s, .int .i64 pos] w fun e w' => e = .returned (.tuple #[.int .i32 (nextAt s pos).1, .int .i64 (nextAt s pos).2]) ∧ w = w' := by
  obtain ⟨b0, b1, b2, b3, e0, e1, e2, e3, E⟩ := nextAt_eq s pos
  have q0 := bt_nonneg s (pos)
  have p0 := bt_le s (pos)
  have q1 := bt_nonneg s (pos + 1)
  have p1 := bt_le s (pos + 1)
  have hb := get_bt s
  have X : Hid (bt s pos = b0 ∧ bt s (pos + 1) = b1 ∧ bt s (pos + 2) = b2 ∧ bt s (pos + 3) = b3 ∧ nextAt s pos = Pch.nextN (s.size - pos) b0 b1 b2 b3) := ⟨e0, e1, e2, e3, E⟩
  clear e0 e1 e2 e3 E
  by_cases hn : pos + 2 ≤ s.size
  · go_enter Tryz.func84, Tryz.ntmps84
    go_wp2_with (go_at_call 121; refine (refWithin_any _ _ _ _).mono ?_; rintro e w' ⟨rfl, rfl⟩)
    · refine wp_loop_rounds 2 ?_
      repeat any_goals (rw [rounds_succ]; go_wp2_with (go_at_call 121; refine (refWithin_any _ _ _ _).mono ?_; rintro e w' ⟨rfl, rfl⟩))
      all_goals
        go_ret2
        refine ⟨ret_pair ?_, rfl⟩
        obtain ⟨e0, e1, e2, e3, E⟩ := X.out
        rw [E]
        unfold Pch.nextN
        clear hb
        repeat' split
        all_goals (simp only; omega)
    all_goals (exfalso; omega)
  · go_enter Tryz.func84, Tryz.ntmps84
    go_wp2_with (go_at_call 121; refine (refWithin_any _ _ _ _).mono ?_; rintro e w' ⟨rfl, rfl⟩)
    all_goals
        go_ret2
        refine ⟨ret_pair ?_, rfl⟩
        obtain ⟨e0, e1, e2, e3, E⟩ := X.out
        rw [E]
        unfold Pch.nextN
        clear hb
        repeat' split
        all_goals (simp only; omega)
set_option maxHeartbeats 2000000 in
theorem next_3 (s : ByteArray) (pos : Nat) (w : World) (hs : s.size ≤ 4611686018427387904) (hp : pos < s.size) (l0 : 224 ≤ bt s pos) (u0 : bt s pos ≤ 239) :
    Calls Tryz.prog 84 #[.string s, .int .i64 pos] w fun e w' => e = .returned (.tuple #[.int .i32 (nextAt s pos).1, .int .i64 (nextAt s pos).2]) ∧ w = w' := by
  obtain ⟨b0, b1, b2, b3, e0, e1, e2, e3, E⟩ := nextAt_eq s pos
  have q0 := bt_nonneg s (pos)
  have p0 := bt_le s (pos)
  have q1 := bt_nonneg s (pos + 1)
  have p1 := bt_le s (pos + 1)
  have q2 := bt_nonneg s (pos + 2)
  have p2 := bt_le s (pos + 2)
  have hb := get_bt s
  have X : Hid (bt s pos = b0 ∧ bt s (pos + 1) = b1 ∧ bt s (pos + 2) = b2 ∧ bt s (pos + 3) = b3 ∧ nextAt s pos = Pch.nextN (s.size - pos) b0 b1 b2 b3) := ⟨e0, e1, e2, e3, E⟩
  clear e0 e1 e2 e3 E
  by_cases hn : pos + 3 ≤ s.size
  · go_enter Tryz.func84, Tryz.ntmps84
    go_wp2_with (go_at_call 121; refine (refWithin_any _ _ _ _).mono ?_; rintro e w' ⟨rfl, rfl⟩)
    · refine wp_loop_rounds 3 ?_
      repeat any_goals (rw [rounds_succ]; go_wp2_with (go_at_call 121; refine (refWithin_any _ _ _ _).mono ?_; rintro e w' ⟨rfl, rfl⟩))
      all_goals
        go_ret2
        refine ⟨ret_pair ?_, rfl⟩
        obtain ⟨e0, e1, e2, e3, E⟩ := X.out
        rw [E]
        unfold Pch.nextN
        clear hb
        repeat' split
        all_goals (simp only; omega)
    all_goals (exfalso; omega)
  · go_enter Tryz.func84, Tryz.ntmps84
    go_wp2_with (go_at_call 121; refine (refWithin_any _ _ _ _).mono ?_; rintro e w' ⟨rfl, rfl⟩)
    all_goals
        go_ret2
        refine ⟨ret_pair ?_, rfl⟩
        obtain ⟨e0, e1, e2, e3, E⟩ := X.out
        rw [E]
        unfold Pch.nextN
        clear hb
        repeat' split
        all_goals (simp only; omega)
set_option maxHeartbeats 2000000 in
theorem next_4 (s : ByteArray) (pos : Nat) (w : World) (hs : s.size ≤ 4611686018427387904) (hp : pos < s.size) (l0 : 240 ≤ bt s pos) (u0 : bt s pos ≤ 244) :
    Calls Tryz.prog 84 #[.string s, .int .i64 pos] w fun e w' => e = .returned (.tuple #[.int .i32 (nextAt s pos).1, .int .i64 (nextAt s pos).2]) ∧ w = w' := by
  obtain ⟨b0, b1, b2, b3, e0, e1, e2, e3, E⟩ := nextAt_eq s pos
  have q0 := bt_nonneg s (pos)
  have p0 := bt_le s (pos)
  have q1 := bt_nonneg s (pos + 1)
  have p1 := bt_le s (pos + 1)
  have q2 := bt_nonneg s (pos + 2)
  have p2 := bt_le s (pos + 2)
  have q3 := bt_nonneg s (pos + 3)
  have p3 := bt_le s (pos + 3)
  have hb := get_bt s
  have X : Hid (bt s pos = b0 ∧ bt s (pos + 1) = b1 ∧ bt s (pos + 2) = b2 ∧ bt s (pos + 3) = b3 ∧ nextAt s pos = Pch.nextN (s.size - pos) b0 b1 b2 b3) := ⟨e0, e1, e2, e3, E⟩
  clear e0 e1 e2 e3 E
  by_cases hn : pos + 4 ≤ s.size
  · go_enter Tryz.func84, Tryz.ntmps84
    go_wp2_with (go_at_call 121; refine (refWithin_any _ _ _ _).mono ?_; rintro e w' ⟨rfl, rfl⟩)
    · refine wp_loop_rounds 4 ?_
      repeat any_goals (rw [rounds_succ]; go_wp2_with (go_at_call 121; refine (refWithin_any _ _ _ _).mono ?_; rintro e w' ⟨rfl, rfl⟩))
      all_goals
        go_ret2
        refine ⟨ret_pair ?_, rfl⟩
        obtain ⟨e0, e1, e2, e3, E⟩ := X.out
        rw [E]
        unfold Pch.nextN
        clear hb
        repeat' split
        all_goals (simp only; omega)
    all_goals (exfalso; omega)
  · go_enter Tryz.func84, Tryz.ntmps84
    go_wp2_with (go_at_call 121; refine (refWithin_any _ _ _ _).mono ?_; rintro e w' ⟨rfl, rfl⟩)
    all_goals
        go_ret2
        refine ⟨ret_pair ?_, rfl⟩
        obtain ⟨e0, e1, e2, e3, E⟩ := X.out
        rw [E]
        unfold Pch.nextN
        clear hb
        repeat' split
        all_goals (simp only; omega)
set_option maxHeartbeats 2000000 in
theorem next_b1 (s : ByteArray) (pos : Nat) (w : World) (hp : pos < s.size) (l0 : 128 ≤ bt s pos) (u0 : bt s pos ≤ 193) :
    Calls Tryz.prog 84 #[.string s, .int .i64 pos] w fun e w' => e = .returned (.tuple #[.int .i32 (nextAt s pos).1, .int .i64 (nextAt s pos).2]) ∧ w = w' := by
  obtain ⟨b0, b1, b2, b3, e0, e1, e2, e3, E⟩ := nextAt_eq s pos
  have q0 := bt_nonneg s (pos)
  have p0 := bt_le s (pos)
  have hb := get_bt s
  have X : Hid (bt s pos = b0 ∧ bt s (pos + 1) = b1 ∧ bt s (pos + 2) = b2 ∧ bt s (pos + 3) = b3 ∧ nextAt s pos = Pch.nextN (s.size - pos) b0 b1 b2 b3) := ⟨e0, e1, e2, e3, E⟩
  clear e0 e1 e2 e3 E
  go_enter Tryz.func84, Tryz.ntmps84
  go_wp2
  all_goals
      go_ret2
      refine ⟨ret_pair ?_, rfl⟩
      obtain ⟨e0, e1, e2, e3, E⟩ := X.out
      rw [E]
      unfold Pch.nextN
      clear hb
      repeat' split
      all_goals (simp only; omega)
set_option maxHeartbeats 2000000 in
theorem next_b2 (s : ByteArray) (pos : Nat) (w : World) (hp : pos < s.size) (l0 : 245 ≤ bt s pos) :
    Calls Tryz.prog 84 #[.string s, .int .i64 pos] w fun e w' => e = .returned (.tuple #[.int .i32 (nextAt s pos).1, .int .i64 (nextAt s pos).2]) ∧ w = w' := by
  obtain ⟨b0, b1, b2, b3, e0, e1, e2, e3, E⟩ := nextAt_eq s pos
  have q0 := bt_nonneg s (pos)
  have p0 := bt_le s (pos)
  have hb := get_bt s
  have X : Hid (bt s pos = b0 ∧ bt s (pos + 1) = b1 ∧ bt s (pos + 2) = b2 ∧ bt s (pos + 3) = b3 ∧ nextAt s pos = Pch.nextN (s.size - pos) b0 b1 b2 b3) := ⟨e0, e1, e2, e3, E⟩
  clear e0 e1 e2 e3 E
  go_enter Tryz.func84, Tryz.ntmps84
  go_wp2
  all_goals
      go_ret2
      refine ⟨ret_pair ?_, rfl⟩
      obtain ⟨e0, e1, e2, e3, E⟩ := X.out
      rw [E]
      unfold Pch.nextN
      clear hb
      repeat' split
      all_goals (simp only; omega)
theorem next_any (s : ByteArray) (pos : Nat) (w : World) (hs : s.size ≤ 4611686018427387904) (hp : pos < s.size) :
    Calls Tryz.prog 84 #[.string s, .int .i64 pos] w fun e w' => e = .returned (.tuple #[.int .i32 (nextAt s pos).1, .int .i64 (nextAt s pos).2]) ∧ w = w' := by
  by_cases c1 : bt s pos ≤ 127
  · exact next_1 s pos w hp c1
  by_cases c2 : bt s pos ≤ 193
  · exact next_b1 s pos w hp (by omega) c2
  by_cases c3 : bt s pos ≤ 223
  · exact next_2 s pos w hs hp (by omega) c3
  by_cases c4 : bt s pos ≤ 239
  · exact next_3 s pos w hs hp (by omega) c4
  by_cases c5 : bt s pos ≤ 244
  · exact next_4 s pos w hs hp (by omega) c5
  · exact next_b2 s pos w hp (by omega)
end Go.Proofs.YtlemdhfekdiaeaaGreatDoor.Wch
