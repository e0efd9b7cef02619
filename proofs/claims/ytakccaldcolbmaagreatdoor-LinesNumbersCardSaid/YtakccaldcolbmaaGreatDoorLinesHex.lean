/- The walk over ParseUint at two digits of base 16 (chapter 31). -/
import Derived.Test.YtakccaldcolbmaaGreatDoorLinesNum
import Derived.Laws.Rows
namespace Go.Proofs.YtakccaldcolbmaaGreatDoor.Wln
open Go Go.RowKit Go.Proofs.YtakccaldcolbmaaGreatDoor.Kb

theorem bits32 : ∀ n : Nat, n < 103 → 97 ≤ n → bits BinOp.or IntKind.u8 (n : Int) 32 = (n : Int) := by decide +kernel
theorem lower_any (n : Nat) (h0 : 97 ≤ n) (h1 : n ≤ 102) (w : World) : Calls Tryz.prog 141 #[.int .u8 (n : Int)] w fun e w' => e = .returned (.int .u8 (n : Int)) ∧ w = w' := by
  have h := bits32 n (by omega) h0
  go_enter Tryz.func141, Tryz.ntmps141
  go_wp2
  go_ret
  exact ⟨rfl, rfl⟩
theorem lower_int (z : Int) (h0 : 97 ≤ z) (h1 : z ≤ 102) (w : World) : Calls Tryz.prog 141 #[.int .u8 z] w fun e w' => e = .returned (.int .u8 z) ∧ w = w' := by
  have h := lower_any z.toNat (by omega) (by omega) w
  rwa [show ((z.toNat : Nat) : Int) = z by omega] at h
/-- a digit's byte -/
def HexB (c : UInt8) (x : Nat) : Prop := (48 ≤ c.toNat ∧ c.toNat ≤ 57 ∧ c.toNat = x + 48) ∨ (97 ≤ c.toNat ∧ c.toNat ≤ 102 ∧ c.toNat = x + 87)
theorem hexB_of {c : UInt8} {x : Nat} (h : Pln.digit c = some x) : HexB c x := by
  obtain ⟨_, h⟩ := Pln.digit_cases h
  rcases h with ⟨a, b, e⟩ | ⟨a, b, e⟩
  · exact .inl ⟨a, b, by omega⟩
  · exact .inr ⟨a, b, by omega⟩
set_option maxRecDepth 100000 in
set_option maxHeartbeats 8000000 in
theorem uint_hex (a b : UInt8) (x y : Nat) (ha : HexB a x) (hb : HexB b y) (w : World) :
    Calls Tryz.prog 128 #[.string ⟨#[a, b]⟩, .int .i64 16, .int .i64 8] w fun e w' => e = .returned (.tuple #[.int .u64 ((16 * x + y : Nat) : Int), .nilIface]) ∧ Below w.heap.size w w' := by
  have hcv := Lib.run_convert_string_bytes w 9 46 5 ⟨#[a, b]⟩ Tryz.underlying9 Tryz.underlying46 Tryz.underlying5
  have c0 := Lib.bytesWorld_cell w 5 ⟨#[a, b]⟩ 0 (by show 0 < 2; decide)
  have c1 := Lib.bytesWorld_cell w 5 ⟨#[a, b]⟩ 1 (by show 1 < 2; decide)
  have hB := Joins.below_bytesWorld _ w 5 ⟨#[a, b]⟩ (Nat.le_refl _)
  generalize Lib.bytesWorld w 5 ⟨#[a, b]⟩ = w2 at hcv c0 c1 hB
  obtain ⟨cc, hcv2⟩ : ∃ cc, (convert 9 46 (.string ⟨#[a, b]⟩)).run Tryz.prog w = .ok (.slice (some ⟨w.heap.size, 0, none⟩) 2 cc) w2 := ⟨_, hcv⟩
  clear hcv
  replace c0 : w2.cell? ⟨w.heap.size, 0, none⟩ = some (.int .u8 (a.toNat : Int)) := c0
  replace c1 : w2.cell? ⟨w.heap.size, 1, none⟩ = some (.int .u8 (b.toNat : Int)) := c1
  have HB := Kept.mk hB
  have HXY : Kept (x < 16 ∧ y < 16 ∧ (0 : Int) ≤ ((x : Nat) : Int) ∧ ((x : Nat) : Int) ≤ 15) := ⟨by unfold HexB at ha hb; omega⟩
  have HA : Kept ((48 ≤ (a.toNat : Int) ∧ (a.toNat : Int) ≤ 57 ∧ (a.toNat : Int) = (x : Int) + 48) ∨ (97 ≤ (a.toNat : Int) ∧ (a.toNat : Int) ≤ 102 ∧ (a.toNat : Int) = (x : Int) + 87)) := ⟨by unfold HexB at ha; omega⟩
  have HBB : Kept ((48 ≤ (b.toNat : Int) ∧ (b.toNat : Int) ≤ 57 ∧ (b.toNat : Int) = (y : Int) + 48) ∨ (97 ≤ (b.toNat : Int) ∧ (b.toNat : Int) ≤ 102 ∧ (b.toNat : Int) = (y : Int) + 87)) := ⟨by unfold HexB at hb; omega⟩
  have HB := Kept.mk hB
  clear hB ha hb
  generalize (a.toNat : Int) = A at c0 HA
  generalize (b.toNat : Int) = B at c1 HBB
  obtain ⟨X, hX⟩ : ∃ X : Int, ((x : Nat) : Int) = X := ⟨_, rfl⟩
  have HX := Kept.mk hX
  rw [hX] at HXY
  clear hX
  go_enter Tryz.func128, Tryz.ntmps128
  go_wp2
  go_loopw [12, 13, 15, 16, 17, 101] (fun bp n _c _d _n1 i wx => ∃ k N : Nat, bp = .bool false ∧ ((k = 0 ∧ N = 0) ∨ (k = 1 ∧ N = x) ∨ (k = 2 ∧ N = 16 * x + y)) ∧ n = .int .u64 (N : Int) ∧ i = .int .i64 (k : Int) ∧ w2 = wx) (fun _ _ _ _ _ i _ => 2 - (intOf i).toNat)
  case atStart => exact ⟨0, 0, rfl, .inl ⟨rfl, rfl⟩, rfl, rfl, rfl⟩
  case round =>
    obtain ⟨k, N, rfl, hk, rfl, rfl, rfl⟩ := hrel
    have hx := HXY.out
    rcases hk with ⟨rfl, h2⟩ | ⟨rfl, h2⟩ | ⟨rfl, h2⟩
    all_goals
      have h2 := h2.symm
      subst h2
    · rcases HA.out with ⟨h1, h2, h4⟩ | ⟨h1, h2, h4⟩
      · have q1 : (48 : Int) ≤ A := by omega
        have q2 : A ≤ 57 := by omega
        have q3 : (A == 95) = false := by simp; omega
        have q4 : ¬ (16 : Int) ≤ A - 48 := by omega
        have P3 := Kept.mk h4
        clear h1 h2 h4
        go_wp2_with (go_at_call 141; refine (lower_int A (by omega) (by omega) _).mono ?_; rintro e w5 ⟨rfl, rfl⟩)
        all_goals first
          | (exfalso; omega)
          | skip
        go_roundw
        case rel => exact ⟨1, x, rfl, .inr (.inl ⟨rfl, rfl⟩), by rw [show (((x : Nat) : Int) : Int) = A - 48 by have := P3.out; omega]; try go_num, by go_num, trivial⟩
        case measure => simp [intOf]
      · have q1 : (48 : Int) ≤ A := by omega
        have q2 : ¬ A ≤ 57 := by omega
        have q3 : (A == 95) = false := by simp; omega
        have q5 : (97 : Int) ≤ A := by omega
        have q6 : A ≤ 122 := by omega
        have q7 : A ≤ 102 := by omega
        have q4 : ¬ (16 : Int) ≤ A - 97 + 10 := by omega
        have P3 := Kept.mk h4
        clear h1 h2 h4
        go_wp2_with (go_at_call 141; refine (lower_int A (by omega) (by omega) _).mono ?_; rintro e w5 ⟨rfl, rfl⟩)
        all_goals first
          | (exfalso; omega)
          | skip
        go_roundw
        case rel => exact ⟨1, x, rfl, .inr (.inl ⟨rfl, rfl⟩), by rw [show (((x : Nat) : Int) : Int) = A - 87 by have := P3.out; omega]; try go_num, by go_num, trivial⟩
        case measure => simp [intOf]
    · have n1 : ¬ (1152921504606846976 : Int) ≤ X := by omega
      have n3 : X ≤ 15 := by omega
      have n4 : (0 : Int) ≤ X := by omega
      have e4 : ((x : Nat) : Int) = X := HX.out
      rcases HBB.out with ⟨h1, h2, h4⟩ | ⟨h1, h2, h4⟩
      · have q1 : (48 : Int) ≤ B := by omega
        have q2 : B ≤ 57 := by omega
        have q3 : (B == 95) = false := by simp; omega
        have q4 : ¬ (16 : Int) ≤ B - 48 := by omega
        have P3 := Kept.mk h4
        clear h1 h2 h4 hx
        go_wp2_with (go_at_call 141; refine (lower_int B (by omega) (by omega) _).mono ?_; rintro e w5 ⟨rfl, rfl⟩)
        all_goals first
          | (exfalso; omega)
          | skip
        go_roundw
        case rel => exact ⟨2, 16 * x + y, rfl, .inr (.inr ⟨rfl, rfl⟩), by rw [show (((16 * x + y : Nat) : Int) : Int) = 16 * X + (B - 48) by have := P3.out; have := HX.out; omega]; try go_num, by go_num, trivial⟩
        case measure => simp [intOf]
      · have q1 : (48 : Int) ≤ B := by omega
        have q2 : ¬ B ≤ 57 := by omega
        have q3 : (B == 95) = false := by simp; omega
        have q5 : (97 : Int) ≤ B := by omega
        have q6 : B ≤ 122 := by omega
        have q7 : B ≤ 102 := by omega
        have q4 : ¬ (16 : Int) ≤ B - 97 + 10 := by omega
        have P3 := Kept.mk h4
        clear h1 h2 h4 hx
        go_wp2_with (go_at_call 141; refine (lower_int B (by omega) (by omega) _).mono ?_; rintro e w5 ⟨rfl, rfl⟩)
        all_goals first
          | (exfalso; omega)
          | skip
        go_roundw
        case rel => exact ⟨2, 16 * x + y, rfl, .inr (.inr ⟨rfl, rfl⟩), by rw [show (((16 * x + y : Nat) : Int) : Int) = 16 * X + (B - 87) by have := P3.out; have := HX.out; omega]; try go_num, by go_num, trivial⟩
        case measure => simp [intOf]
    · go_wp2
      go_ret2
      exact ⟨rfl, HB.out⟩
end Go.Proofs.YtakccaldcolbmaaGreatDoor.Wln
