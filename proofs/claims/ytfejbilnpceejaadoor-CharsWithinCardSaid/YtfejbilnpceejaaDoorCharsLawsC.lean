/- The walk over CharsWithin. -/
import Derived.Test.YtfejbilnpceejaaDoorCharsLawsB
namespace Go.Proofs.YtfejbilnpceejaaDoor.Wch
open Go Go.RowKit

/-- a character, of whatever text -/
def Scalar (r : Int) : Prop := (0 ≤ r ∧ r < 55296) ∨ (57343 < r ∧ r ≤ 1114111)
theorem encode_list (n : Nat) (h : n < 55296 ∨ (57343 < n ∧ n ≤ 1114111)) : (Utf8.encode (n : Int)).data.toList = Lib.encodeRune (n : Int) := by
  have hv : Utf8.valid (n : Int) = true := by
    simp only [Utf8.valid, Bool.and_eq_true, Bool.or_eq_true, decide_eq_true_eq]
    omega
  unfold Utf8.encode
  simp only [hv, if_true, Int.toNat_natCast]
  by_cases a : n < 128
  · rw [if_pos a]
    unfold Lib.encodeRune
    rw [Lib.encodeRuneZ_one (by omega) (by omega)]
    simp
  rw [if_neg a]
  by_cases b : n < 2048
  · rw [if_pos b]
    unfold Lib.encodeRune
    rw [Lib.encodeRuneZ_two (by omega) (by omega)]
    simp only [List.map_cons, List.map_nil]
    congr 2
  rw [if_neg b]
  by_cases c : n < 65536
  · rw [if_pos c]
    unfold Lib.encodeRune
    rw [Lib.encodeRuneZ_three (by omega)]
    simp only [List.map_cons, List.map_nil]
    congr 2
  rw [if_neg c]
  unfold Lib.encodeRune
  rw [Lib.encodeRuneZ_four (by omega) (by omega)]
  simp only [List.map_cons, List.map_nil]
  congr 2
theorem ok_encode (n : Nat) (h : n < 55296 ∨ (57343 < n ∧ n ≤ 1114111)) : Pch.okR (n, (Lib.encodeRune (n : Int)).length) = true := by
  have := Pch.decode_encode n h []
  rw [this.1] at this
  exact this.2
theorem one_texts (n : Nat) (h : n < 55296 ∨ (57343 < n ∧ n ≤ 1114111)) : Pch.textsL (Utf8.encode (n : Int)).data.toList = Pch.charB (n : Int) := by
  have e := Pch.runes_encode n h []
  rw [List.append_nil] at e
  unfold Pch.textsL
  rw [encode_list n h, e, List.all_cons, ok_encode n h]
  simp [Pch.runes_nil]
theorem one_name (n : Nat) (h : n < 55296 ∨ (57343 < n ∧ n ≤ 1114111)) : Pch.nameL (Utf8.encode (n : Int)).data.toList = Pch.startB (n : Int) := by
  have e := Pch.runes_encode n h []
  rw [List.append_nil] at e
  have hl := Lib.encodeRuneZ_length (n : Int)
  unfold Pch.nameL
  rw [encode_list n h, e, Pch.headB, ok_encode n h, Pch.runes_nil]
  have : (Lib.encodeRune (n : Int)).length ≤ 100 := by unfold Lib.encodeRune; rw [List.length_map]; omega
  simp [this]
theorem two_texts (n m : Nat) (h : n < 55296 ∨ (57343 < n ∧ n ≤ 1114111)) (h' : m < 55296 ∨ (57343 < m ∧ m ≤ 1114111)) : Pch.textsL (Utf8.encode (n : Int) ++ Utf8.encode (m : Int)).data.toList = (Pch.charB (n : Int) && Pch.charB (m : Int)) := by
  have e := Pch.runes_encode n h (Lib.encodeRune (m : Int))
  have e' := Pch.runes_encode m h' []
  rw [List.append_nil] at e'
  unfold Pch.textsL
  rw [Joins.data_append, encode_list n h, encode_list m h', e, e', List.all_cons, List.all_cons, ok_encode n h, ok_encode m h']
  simp [Pch.runes_nil]
theorem two_name (n m : Nat) (h : n < 55296 ∨ (57343 < n ∧ n ≤ 1114111)) (h' : m < 55296 ∨ (57343 < m ∧ m ≤ 1114111)) : Pch.nameL (Utf8.encode (n : Int) ++ Utf8.encode (m : Int)).data.toList = (Pch.startB (n : Int) && Pch.nameB (m : Int)) := by
  have e := Pch.runes_encode n h (Lib.encodeRune (m : Int))
  have e' := Pch.runes_encode m h' []
  rw [List.append_nil] at e'
  have hl := Lib.encodeRuneZ_length (n : Int)
  have hl' := Lib.encodeRuneZ_length (m : Int)
  unfold Pch.nameL
  rw [Joins.data_append, encode_list n h, encode_list m h', e, e', Pch.headB, List.all_cons, ok_encode n h, ok_encode m h', Pch.runes_nil]
  have : (Lib.encodeRune (n : Int) ++ Lib.encodeRune (m : Int)).length ≤ 100 := by unfold Lib.encodeRune; rw [List.length_append, List.length_map, List.length_map]; omega
  rw [decide_eq_true this]
  simp
theorem nat_of {r : Int} (h : Scalar r) : ∃ n : Nat, r = (n : Int) ∧ (n < 55296 ∨ (57343 < n ∧ n ≤ 1114111)) := by
  unfold Scalar at h
  exact ⟨r.toNat, by omega, by omega⟩
theorem encode_size (r : Int) : (Utf8.encode r).size ≤ 4 := by
  unfold Utf8.encode
  simp only []
  repeat' split
  all_goals simp [ByteArray.size]
theorem not_char {r : Int} (h : ¬ Scalar r) : Pch.charB r = false := by
  cases hc : Pch.charB r with
  | false => rfl
  | true => rw [Pch.charB_iff] at hc; unfold Scalar at h; omega

set_option maxRecDepth 100000 in
set_option maxHeartbeats 2000000 in
theorem within_odd (r q : Int) (w : World) (ht : Env w) (hv : ¬ (Scalar r ∧ Scalar q)) :
    Calls Tryd.prog 5 #[.int .i32 r, .int .i32 q] w fun e w' => e = .returned (.bool true) ∧ Below w.heap.size w w' := by
  have ok0 : Ok w w := Ok.start ht
  have cA : ∀ wx, Ok w wx → Calls Tryd.prog 14 #[] wx fun e w' => e = .returned (.bool true) ∧ Ok w w' := lift fun wx h => awake_any wx h
  have c1 : ∀ wx, Ok w wx → Calls Tryd.prog 8 #[.int .i32 r] wx fun e w' => e = .returned (.bool (Pch.charB r)) ∧ Ok w w' := lift0 fun wx => char_any r wx
  have c2 : ∀ wx, Ok w wx → Calls Tryd.prog 10 #[.int .i32 r] wx fun e w' => e = .returned (.bool (Pch.startB r)) ∧ Ok w w' := lift fun wx h => start_any r wx h.1
  have c3 : ∀ wx, Ok w wx → Calls Tryd.prog 12 #[.int .i32 r] wx fun e w' => e = .returned (.bool (Pch.nameB r)) ∧ Ok w w' := lift fun wx h => name_any r wx h.1
  have c4 : ∀ wx, Ok w wx → Calls Tryd.prog 8 #[.int .i32 q] wx fun e w' => e = .returned (.bool (Pch.charB q)) ∧ Ok w w' := lift0 fun wx => char_any q wx
  have p1 : Pch.startB r = true → Pch.nameB r = true := Pch.name_of_start
  have p2 : Pch.nameB r = true → Pch.charB r = true := Pch.char_of_name
  have p3 : Pch.charB r = true → Pch.charB q = true → False := by
    intro a b
    by_cases x : Scalar r
    · by_cases y : Scalar q
      · exact hv ⟨x, y⟩
      · rw [not_char y] at b; cases b
    · rw [not_char x] at a; cases a
  have hv' : r < 0 ∨ 1114111 < r ∨ (55296 ≤ r ∧ r ≤ 57343) ∨ q < 0 ∨ 1114111 < q ∨ (55296 ≤ q ∧ q ≤ 57343) := by
    unfold Scalar at hv
    omega
  generalize Pch.charB r = A at c1 p2 p3
  generalize Pch.startB r = B at c2 p1
  generalize Pch.nameB r = C at c3 p1 p2
  generalize Pch.charB q = D at c4 p3
  have CA := Lib.hid cA
  have C1 := Lib.hid c1
  have C2 := Lib.hid c2
  have C3 := Lib.hid c3
  have C4 := Lib.hid c4
  have P1 := Lib.hid p1
  have P2 := Lib.hid p2
  have P3 := Lib.hid p3
  clear ht cA c1 c2 c3 c4 p1 p2 p3 hv
  go_enter Tryd.func5, Tryd.ntmps5
  go_upto_region 3 with (go_at_call 14; refine (CA.out _ (by assumption)).mono ?_; rintro e w1 ⟨rfl, ok1⟩)
  go_cut [24] (fun c wx => c = .bool false ∧ Ok w wx)
  case first =>
    go_wp2_with (first
      | (go_at_call 8; refine (C1.out _ (by assumption)).mono ?_; rintro e w2 ⟨rfl, ok2⟩)
      | (go_at_call 10; refine (C2.out _ (by assumption)).mono ?_; rintro e w2 ⟨rfl, ok2⟩)
      | (go_at_call 12; refine (C3.out _ (by assumption)).mono ?_; rintro e w2 ⟨rfl, ok2⟩))
    all_goals
      go_meet
      case rel =>
        refine ⟨?_, by assumption⟩
        have h1 := P1.out
        have h2 := P2.out
        clear CA C1 C2 C3 C4 P1 P2 P3 hv'
        go_light
        cases A <;> cases B <;> cases C <;> first | rfl | contradiction | exact absurd (h1 rfl) (by decide) | exact absurd (h2 rfl) (by decide)
  case rest =>
    obtain ⟨rfl, ok2⟩ := hcut
    go_upto_region 5 with (fail)
    go_cut [54] (fun c wx => c = .bool true ∧ Ok w wx)
    case first =>
      go_wp2
      all_goals
        go_meet
        case rel =>
          refine ⟨?_, by assumption⟩
          clear CA C1 C2 C3 C4 P1 P2 P3
          go_light
          first | rfl | (refine congrArg Value.bool ?_; simp only [Bool.or_eq_true, decide_eq_true_eq]; omega)
    case rest =>
      obtain ⟨rfl, ok3⟩ := hcut
      go_wp2_with (first
        | (go_at_call_of 8 (Value.int IntKind.i32 r); refine (C1.out _ (by assumption)).mono ?_; rintro e w4 ⟨rfl, ok4⟩)
        | (go_at_call_of 8 (Value.int IntKind.i32 q); refine (C4.out _ (by assumption)).mono ?_; rintro e w4 ⟨rfl, ok4⟩))
      · exfalso
        exact P3.out ‹_› ‹_›
      · go_ret
        exact ⟨rfl, by first | exact ok4.1 | exact ok3.1⟩
      · go_ret
        exact ⟨rfl, by first | exact ok4.1 | exact ok3.1⟩

/-- kept from every tactic of the walk -/
structure IsEnc (n : Nat) (s : ByteArray) : Prop where
  out : Utf8.encode (n : Int) = s
set_option maxRecDepth 100000 in
set_option maxHeartbeats 2000000 in
theorem within_even (n m : Nat) (w : World) (ht : Env w) (hn : n < 55296 ∨ (57343 < n ∧ n ≤ 1114111)) (hm : m < 55296 ∨ (57343 < m ∧ m ≤ 1114111)) :
    Calls Tryd.prog 5 #[.int .i32 n, .int .i32 m] w fun e w' => e = .returned (.bool true) ∧ Below w.heap.size w w' := by
  have ok0 : Ok w w := Ok.start ht
  have cA : ∀ wx, Ok w wx → Calls Tryd.prog 14 #[] wx fun e w' => e = .returned (.bool true) ∧ Ok w w' := lift fun wx h => awake_any wx h
  have c1 : ∀ wx, Ok w wx → Calls Tryd.prog 8 #[.int .i32 n] wx fun e w' => e = .returned (.bool (Pch.charB n)) ∧ Ok w w' := lift0 fun wx => char_any n wx
  have c2 : ∀ wx, Ok w wx → Calls Tryd.prog 10 #[.int .i32 n] wx fun e w' => e = .returned (.bool (Pch.startB n)) ∧ Ok w w' := lift fun wx h => start_any n wx h.1
  have c3 : ∀ wx, Ok w wx → Calls Tryd.prog 12 #[.int .i32 n] wx fun e w' => e = .returned (.bool (Pch.nameB n)) ∧ Ok w w' := lift fun wx h => name_any n wx h.1
  have c4 : ∀ wx, Ok w wx → Calls Tryd.prog 8 #[.int .i32 m] wx fun e w' => e = .returned (.bool (Pch.charB m)) ∧ Ok w w' := lift0 fun wx => char_any m wx
  have c5 : ∀ wx, Ok w wx → Calls Tryd.prog 12 #[.int .i32 m] wx fun e w' => e = .returned (.bool (Pch.nameB m)) ∧ Ok w w' := lift fun wx h => name_any m wx h.1
  have hz := encode_size n
  have hz' := encode_size m
  have hz2 : (Utf8.encode (n : Int) ++ Utf8.encode (m : Int)).size ≤ 8 := by
    rw [← size_len, Joins.data_append, List.length_append, size_len, size_len]
    omega
  have d1 : ∀ wx, Ok w wx → Calls Tryd.prog 17 #[.string (Utf8.encode (n : Int))] wx fun e w' => e = .returned (.bool (Pch.textsL (Utf8.encode (n : Int)).data.toList)) ∧ Ok w w' := lift fun wx h => texts_any _ wx (by omega) h
  have d2 : ∀ wx, Ok w wx → Calls Tryd.prog 15 #[.string (Utf8.encode (n : Int))] wx fun e w' => e = .returned (.bool (Pch.nameL (Utf8.encode (n : Int)).data.toList)) ∧ Ok w w' := lift fun wx h => nametext_any _ wx (by omega) h
  have d3 : ∀ wx, Ok w wx → Calls Tryd.prog 17 #[.string (Utf8.encode (n : Int) ++ Utf8.encode (m : Int))] wx fun e w' => e = .returned (.bool (Pch.textsL (Utf8.encode (n : Int) ++ Utf8.encode (m : Int)).data.toList)) ∧ Ok w w' := lift fun wx h => texts_any _ wx (by omega) h
  have d4 : ∀ wx, Ok w wx → Calls Tryd.prog 15 #[.string (Utf8.encode (n : Int) ++ Utf8.encode (m : Int))] wx fun e w' => e = .returned (.bool (Pch.nameL (Utf8.encode (n : Int) ++ Utf8.encode (m : Int)).data.toList)) ∧ Ok w w' := lift fun wx h => nametext_any _ wx (by omega) h
  rw [one_texts n hn] at d1
  rw [one_name n hn] at d2
  rw [two_texts n m hn hm] at d3
  rw [two_name n m hn hm] at d4
  have p1 : Pch.startB n = true → Pch.nameB n = true := Pch.name_of_start
  have p2 : Pch.nameB n = true → Pch.charB n = true := Pch.char_of_name
  generalize Pch.charB (n : Int) = A at c1 p2 d1 d3
  generalize Pch.startB (n : Int) = B at c2 p1 d2 d4
  generalize Pch.nameB (n : Int) = C at c3 p1 p2
  generalize Pch.charB (m : Int) = D at c4 d3
  generalize Pch.nameB (m : Int) = E at c5 d4
  generalize e1 : Utf8.encode (n : Int) = s1 at d1 d2 d3 d4 hz
  generalize e2 : Utf8.encode (m : Int) = s2 at d3 d4 hz'
  have E1 : IsEnc n s1 := ⟨e1⟩
  have E2 : IsEnc m s2 := ⟨e2⟩
  have CA := Lib.hid cA
  have C1 := Lib.hid c1
  have C2 := Lib.hid c2
  have C3 := Lib.hid c3
  have C4 := Lib.hid c4
  have C5 := Lib.hid c5
  have D1 := Lib.hid d1
  have D2 := Lib.hid d2
  have D3 := Lib.hid d3
  have D4 := Lib.hid d4
  have P1 := Lib.hid p1
  have P2 := Lib.hid p2
  clear ht cA c1 c2 c3 c4 c5 d1 d2 d3 d4 p1 p2 hz2 e1 e2
  go_enter Tryd.func5, Tryd.ntmps5
  go_upto_region 3 with (go_at_call 14; refine (CA.out _ (by with_reducible assumption)).mono ?_; rintro e w1 ⟨rfl, ok1⟩)
  go_cut [24] (fun c wx => c = .bool false ∧ Ok w wx)
  case first =>
    go_wp2_with (first
      | (go_at_call 8; refine (C1.out _ (by with_reducible assumption)).mono ?_; rintro e w2 ⟨rfl, ok2⟩)
      | (go_at_call 10; refine (C2.out _ (by with_reducible assumption)).mono ?_; rintro e w2 ⟨rfl, ok2⟩)
      | (go_at_call 12; refine (C3.out _ (by with_reducible assumption)).mono ?_; rintro e w2 ⟨rfl, ok2⟩))
    all_goals
      go_meet
      case rel =>
        refine ⟨?_, by with_reducible assumption⟩
        have h1 := P1.out
        have h2 := P2.out
        clear CA C1 C2 C3 C4 C5 D1 D2 D3 D4 P1 P2
        go_light
        cases A <;> cases B <;> cases C <;> first | rfl | contradiction | exact absurd (h1 rfl) (by decide) | exact absurd (h2 rfl) (by decide)
  case rest =>
    obtain ⟨rfl, ok2⟩ := hcut
    go_upto_region 5 with (fail)
    go_cut [54] (fun c wx => c = .bool false ∧ Ok w wx)
    case first =>
      go_wp2
      all_goals
        go_meet
        case rel =>
          refine ⟨?_, by with_reducible assumption⟩
          clear CA C1 C2 C3 C4 C5 D1 D2 D3 D4 P1 P2
          go_light
          first | rfl | (exfalso; omega) | (refine congrArg Value.bool ?_; simp; omega)
    case rest =>
      obtain ⟨rfl, ok3⟩ := hcut
      go_upto_region 7 with (fail)
      go_cut [5, 6] (fun x y wx => x = .string s1 ∧ y = .string s2 ∧ Ok w wx)
      case first =>
        go_wp2
        go_meet
        case rel => exact ⟨by rw [E1.out], by rw [E2.out], by with_reducible assumption⟩
      case rest =>
        obtain ⟨rfl, rfl, ok4⟩ := hcut
        go_wp2_with (first
          | (go_at_call_of 8 (Value.int IntKind.i32 (n : Int)); refine (C1.out _ (by with_reducible assumption)).mono ?_; rintro e w4 ⟨rfl, ok4⟩)
          | (go_at_call_of 8 (Value.int IntKind.i32 (m : Int)); refine (C4.out _ (by with_reducible assumption)).mono ?_; rintro e w4 ⟨rfl, ok4⟩)
          | (go_at_call 10; refine (C2.out _ (by with_reducible assumption)).mono ?_; rintro e w4 ⟨rfl, ok4⟩)
          | (go_at_call 12; refine (C5.out _ (by with_reducible assumption)).mono ?_; rintro e w4 ⟨rfl, ok4⟩)
          | (go_at_call_of 17 (Value.string s1); refine (D1.out _ (by with_reducible assumption)).mono ?_; rintro e w4 ⟨rfl, ok4⟩)
          | (go_at_call_of 17 (Value.string (s1 ++ s2)); refine (D3.out _ (by with_reducible assumption)).mono ?_; rintro e w4 ⟨rfl, ok4⟩)
          | (go_at_call_of 15 (Value.string s1); refine (D2.out _ (by with_reducible assumption)).mono ?_; rintro e w4 ⟨rfl, ok4⟩)
          | (go_at_call_of 15 (Value.string (s1 ++ s2)); refine (D4.out _ (by with_reducible assumption)).mono ?_; rintro e w4 ⟨rfl, ok4⟩))
        all_goals
          go_ret
          refine ⟨ret_bool ?_, by first | exact ok4.1 | exact Ok.1 (by with_reducible assumption)⟩
          clear CA C1 C2 C3 C4 C5 D1 D2 D3 D4 P1 P2 E1 E2 hz hz'
          go_light
          first | rfl | (cases A <;> cases B <;> cases D <;> cases E <;> first | rfl | contradiction)
theorem law_within (r q : Int) (w : World) (ht : Env w) :
    Calls Tryd.prog 5 #[.int .i32 r, .int .i32 q] w fun e w' => e = .returned (.bool true) ∧ Below w.heap.size w w' := by
  by_cases h : Scalar r ∧ Scalar q
  · obtain ⟨n, rfl, hn⟩ := nat_of h.1
    obtain ⟨m, rfl, hm⟩ := nat_of h.2
    exact within_even n m w ht hn hm
  · exact within_odd r q w ht h
end Go.Proofs.YtfejbilnpceejaaDoor.Wch
