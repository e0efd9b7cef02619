/- The walk over strings.EqualFold with "xml", for whatever name (chapter 06). -/
import Derived.Test.YtlemdhfekdiaeaaGreatDoorTreePlain
import Derived.Test.YtlemdhfekdiaeaaGreatDoorKitBytes
import Derived.Test.YtlemdhfekdiaeaaGreatDoorCharsWalksC
import Derived.Lib.Walk
import Derived.Laws.Strings3
import Derived.Laws.RangeAny
import Derived.Lib.Fold
import Derived.ScopeJumps
import Derived.WalkMore
namespace Go.Proofs.YtlemdhfekdiaeaaGreatDoor.Wtr
open Go Go.RowKit Go.Proofs.YtlemdhfekdiaeaaGreatDoor.Kb

/-- what the fold of letters reads -/
def FoldTab (w : World) : Prop := w.cell? ⟨6, 120, none⟩ = some (.int .u16 88) ∧ w.cell? ⟨6, 88, none⟩ = some (.int .u16 120) ∧ w.cell? ⟨6, 109, none⟩ = some (.int .u16 77) ∧ w.cell? ⟨6, 77, none⟩ = some (.int .u16 109) ∧ w.cell? ⟨6, 108, none⟩ = some (.int .u16 76) ∧ w.cell? ⟨6, 76, none⟩ = some (.int .u16 108)
theorem FoldTab.below {w w' : World} (h : FoldTab w) (hb : Below w.heap.size w w') : FoldTab w' := by
  obtain ⟨h0, h1, h2, h3, h4, h5⟩ := h
  have k := fun (i : Nat) (v : Value) (e : w.cell? ⟨6, i, none⟩ = some v) => (show w'.cell? ⟨6, i, none⟩ = some v by rw [hb.cell (p := ⟨6, i, none⟩) (Kb.cell_lt e)]; exact e)
  exact ⟨k _ _ h0, k _ _ h1, k _ _ h2, k _ _ h3, k _ _ h4, k _ _ h5⟩
theorem sfold_120 (w : World) (h : FoldTab w) : Calls Tryz.prog 117 #[.int .i32 120] w fun e w' => e = .returned (.int .i32 88) ∧ w = w' := by
  obtain ⟨h0, h1, h2, h3, h4, h5⟩ := h
  go_enter Tryz.func117, Tryz.ntmps117
  go_wp2
  go_ret
  exact ⟨rfl, rfl⟩
theorem sfold_88 (w : World) (h : FoldTab w) : Calls Tryz.prog 117 #[.int .i32 88] w fun e w' => e = .returned (.int .i32 120) ∧ w = w' := by
  obtain ⟨h0, h1, h2, h3, h4, h5⟩ := h
  go_enter Tryz.func117, Tryz.ntmps117
  go_wp2
  go_ret
  exact ⟨rfl, rfl⟩
theorem sfold_109 (w : World) (h : FoldTab w) : Calls Tryz.prog 117 #[.int .i32 109] w fun e w' => e = .returned (.int .i32 77) ∧ w = w' := by
  obtain ⟨h0, h1, h2, h3, h4, h5⟩ := h
  go_enter Tryz.func117, Tryz.ntmps117
  go_wp2
  go_ret
  exact ⟨rfl, rfl⟩
theorem sfold_77 (w : World) (h : FoldTab w) : Calls Tryz.prog 117 #[.int .i32 77] w fun e w' => e = .returned (.int .i32 109) ∧ w = w' := by
  obtain ⟨h0, h1, h2, h3, h4, h5⟩ := h
  go_enter Tryz.func117, Tryz.ntmps117
  go_wp2
  go_ret
  exact ⟨rfl, rfl⟩
theorem sfold_108 (w : World) (h : FoldTab w) : Calls Tryz.prog 117 #[.int .i32 108] w fun e w' => e = .returned (.int .i32 76) ∧ w = w' := by
  obtain ⟨h0, h1, h2, h3, h4, h5⟩ := h
  go_enter Tryz.func117, Tryz.ntmps117
  go_wp2
  go_ret
  exact ⟨rfl, rfl⟩
theorem sfold_76 (w : World) (h : FoldTab w) : Calls Tryz.prog 117 #[.int .i32 76] w fun e w' => e = .returned (.int .i32 108) ∧ w = w' := by
  obtain ⟨h0, h1, h2, h3, h4, h5⟩ := h
  go_enter Tryz.func117, Tryz.ntmps117
  go_wp2
  go_ret
  exact ⟨rfl, rfl⟩
theorem dec_low (T : ByteArray) (h0 : 0 < T.size) (hc : (T[0]'h0).toNat < 128) (w : World) : Calls Tryz.prog 69 #[.string T] w fun e w' => e = .returned (.tuple #[.int .i32 (T[0]'h0).toNat, .int .i64 1]) ∧ w = w' := by
  have e0 : T.toList.isEmpty = false := by
    rw [ByteArray.toList_eq]
    cases h : T.data.toList with
    | nil => have : T.size = 0 := by rw [Lib.size_eq, h]; rfl
             omega
    | cons _ _ => rfl
  obtain ⟨x, hx⟩ : ∃ x, (T[0]'h0) = x := ⟨_, rfl⟩
  rw [hx] at hc ⊢
  have e1 : (x.toNat : Int) < 128 := by omega
  have e2 : (0 : Int) < (T.size : Int) := by omega
  go_enter Tryz.func69, Tryz.ntmps69
  go_wp2
  go_ret2
  exact ⟨rfl, rfl⟩
theorem dec_120 (w : World) : Calls Tryz.prog 69 #[.string ⟨#[120, 109, 108]⟩] w fun e w' => e = .returned (.tuple #[.int .i32 120, .int .i64 1]) ∧ w = w' := dec_low ⟨#[120, 109, 108]⟩ (by decide) (by decide) w
theorem dec_109 (w : World) : Calls Tryz.prog 69 #[.string ⟨#[109, 108]⟩] w fun e w' => e = .returned (.tuple #[.int .i32 109, .int .i64 1]) ∧ w = w' := dec_low ⟨#[109, 108]⟩ (by decide) (by decide) w
theorem dec_108 (w : World) : Calls Tryz.prog 69 #[.string ⟨#[108]⟩] w fun e w' => e = .returned (.tuple #[.int .i32 108, .int .i64 1]) ∧ w = w' := dec_low ⟨#[108]⟩ (by decide) (by decide) w
theorem fold_lower (a : UInt8) (n : Nat) (h : 97 ≤ n ∧ n ≤ 122) : Lib.foldEq a (UInt8.ofNat n) = (a == UInt8.ofNat n || a == UInt8.ofNat (n - 32)) := by
  have e1 : (UInt8.ofNat n).toNat = n := by rw [UInt8.toNat_ofNat', Nat.mod_eq_of_lt (by omega)]
  have e2 : (UInt8.ofNat (n - 32)).toNat = n - 32 := by rw [UInt8.toNat_ofNat', Nat.mod_eq_of_lt (by omega)]
  rw [Bool.eq_iff_iff]
  unfold Lib.foldEq
  simp only [decide_eq_true_eq, Bool.or_eq_true, beq_iff_eq, ← UInt8.toNat_inj, e1, e2]
  omega
theorem xml_fold (l : List UInt8) : Ptr.isXml l = Lib.equalFold l [120, 109, 108] := by
  match l with
  | [] => rfl
  | [a] => simp [Ptr.isXml, Lib.equalFold]
  | [a, b] => simp [Ptr.isXml, Lib.equalFold]
  | [a, b, c] =>
    have h1 := fold_lower a 120 (by omega)
    have h2 := fold_lower b 109 (by omega)
    have h3 := fold_lower c 108 (by omega)
    change Lib.foldEq a 120 = (a == 120 || a == 88) at h1
    change Lib.foldEq b 109 = (b == 109 || b == 77) at h2
    change Lib.foldEq c 108 = (c == 108 || c == 76) at h3
    simp only [Ptr.isXml, Lib.equalFold, h1, h2, h3, Bool.and_true, Bool.and_assoc]
  | _ :: _ :: _ :: _ :: _ => simp [Ptr.isXml, Lib.equalFold]
theorem fold_high (a : UInt8) (n : Nat) (h : 97 ≤ n ∧ n ≤ 122) (ha : 128 ≤ a.toNat) : Lib.foldEq a (UInt8.ofNat n) = false := by
  have e1 : (UInt8.ofNat n).toNat = n := by rw [UInt8.toNat_ofNat', Nat.mod_eq_of_lt (by omega)]
  unfold Lib.foldEq
  rw [e1]
  exact decide_eq_false (by omega)

theorem lit_of (s : ByteArray) (i : Nat) (a : Act) (hd : a.defers = []) (hs : a.tmps.size = 123) (h0 : a.tmps.getD 0 undef = .string s) (h1 : a.tmps.getD 1 undef = .string ⟨#[120, 109, 108]⟩) (h5 : a.tmps.getD 5 undef = .int .i64 i) : ∃ u : Nat → Value, a = { tmps := #[.string s, .string ⟨#[120, 109, 108]⟩, u 2, u 3, u 4, .int .i64 i, u 6, u 7, u 8, u 9, u 10, u 11, u 12, u 13, u 14, u 15, u 16, u 17, u 18, u 19, u 20, u 21, u 22, u 23, u 24, u 25, u 26, u 27, u 28, u 29, u 30, u 31, u 32, u 33, u 34, u 35, u 36, u 37, u 38, u 39, u 40, u 41, u 42, u 43, u 44, u 45, u 46, u 47, u 48, u 49, u 50, u 51, u 52, u 53, u 54, u 55, u 56, u 57, u 58, u 59, u 60, u 61, u 62, u 63, u 64, u 65, u 66, u 67, u 68, u 69, u 70, u 71, u 72, u 73, u 74, u 75, u 76, u 77, u 78, u 79, u 80, u 81, u 82, u 83, u 84, u 85, u 86, u 87, u 88, u 89, u 90, u 91, u 92, u 93, u 94, u 95, u 96, u 97, u 98, u 99, u 100, u 101, u 102, u 103, u 104, u 105, u 106, u 107, u 108, u 109, u 110, u 111, u 112, u 113, u 114, u 115, u 116, u 117, u 118, u 119, u 120, u 121, u 122], defers := [] } := by
  refine ⟨fun k => a.tmps.getD k undef, ?_⟩
  obtain ⟨t, d⟩ := a
  simp only at hd hs h0 h1 h5 ⊢
  subst hd
  rw [← h0, ← h1, ← h5]
  congr 1
  apply Array.ext
  · rw [hs]; rfl
  · intro k hk _
    have : ∀ k, k < 123 → ((List.range 123).map fun k => t.getD k undef)[k]? = some (t.getD k undef) := fun k hk => by
      rw [List.getElem?_map, List.getElem?_range hk]; rfl
    have h := this k (by omega)
    rw [show t.getD k undef = t[k] by simp [Array.getD, hk]] at h
    obtain ⟨_, h⟩ := List.getElem?_eq_some_iff.1 h
    exact h.symm
set_option maxHeartbeats 8000000 in
set_option maxRecDepth 1000000 in
theorem fold_any (s : ByteArray) (w : World) (hs : s.size ≤ 9223372036854775807) (ht : FoldTab w) :
    Calls Tryz.prog 80 #[.string s, .string ⟨#[120, 109, 108]⟩] w fun e w' => e = .returned (.bool (Ptr.isXml s.data.toList)) ∧ Below w.heap.size w w' := by
  obtain ⟨M, hM⟩ : ∃ M : Nat, min (s.size : Int) 3 = (M : Int) := ⟨min s.size 3, by omega⟩
  have hMs : M ≤ s.size := by omega
  have hMt : M ≤ 3 := by omega
  have hMe : M = s.size ∨ M = 3 := by omega
  have hX : Kept (Ptr.isXml s.data.toList = Lib.equalFold s.data.toList [120, 109, 108]) := ⟨xml_fold _⟩
  have HT := Kept.mk ht
  clear ht
  go_enter Tryz.func80, Tryz.ntmps80
  go_wp2
  refine wp_scope_jumps 0 (fun a' w' => w = w' ∧ ∃ (i : Nat) (hi : i < s.size), i < 3 ∧ 128 ≤ (s[i]'hi).toNat ∧ Kept (Ptr.isXml s.data.toList = false) ∧ ∃ u : Nat → Value, a' = { tmps := #[.string s, .string ⟨#[120, 109, 108]⟩, u 2, u 3, u 4, .int .i64 i, u 6, u 7, u 8, u 9, u 10, u 11, u 12, u 13, u 14, u 15, u 16, u 17, u 18, u 19, u 20, u 21, u 22, u 23, u 24, u 25, u 26, u 27, u 28, u 29, u 30, u 31, u 32, u 33, u 34, u 35, u 36, u 37, u 38, u 39, u 40, u 41, u 42, u 43, u 44, u 45, u 46, u 47, u 48, u 49, u 50, u 51, u 52, u 53, u 54, u 55, u 56, u 57, u 58, u 59, u 60, u 61, u 62, u 63, u 64, u 65, u 66, u 67, u 68, u 69, u 70, u 71, u 72, u 73, u 74, u 75, u 76, u 77, u 78, u 79, u 80, u 81, u 82, u 83, u 84, u 85, u 86, u 87, u 88, u 89, u 90, u 91, u 92, u 93, u 94, u 95, u 96, u 97, u 98, u 99, u 100, u 101, u 102, u 103, u 104, u 105, u 106, u 107, u 108, u 109, u 110, u 111, u 112, u 113, u 114, u 115, u 116, u 117, u 118, u 119, u 120, u 121, u 122], defers := [] }) (fun _ _ => 0) rfl ?_ ?_
  · go_wp2
    go_loopg [5] M (fun g s5 wx => w = wx ∧ ∃ i : Nat, i + g = M ∧ s5 = .int .i64 i ∧ Lib.equalFold (s.data.toList.drop i) ([120, 109, 108].drop i) = Lib.equalFold s.data.toList [120, 109, 108])
    case atStart => exact ⟨rfl, 0, by omega, rfl, rfl⟩
    case round =>
      obtain ⟨rfl, i, hig, rfl, hinv⟩ := hrel
      have HI := Kept.mk hinv
      clear hinv hM
      cases gk with
      | zero =>
        have hiM : ¬ ((i : Int) < (M : Int)) := by omega
        obtain rfl : i = M := by omega
        have hE : Lib.equalFold s.data.toList [120, 109, 108] = decide (s.size = 3) := by
          rw [← HI.out, Lib.equalFold_end _ _ (by
            rcases hMe with h | h
            · exact Or.inl (List.drop_eq_nil_of_le (by rw [← Lib.size_eq]; omega))
            · exact Or.inr (List.drop_eq_nil_of_le (by simp; omega))), List.length_drop, List.length_drop, ← Lib.size_eq]
          exact decide_eq_decide.2 (by simp; omega)
        have HE := Kept.mk hE
        clear hE
        by_cases hst : s.size = 3
        · have hb : ((s.size : Int) == 3) = true := beq_iff_eq.2 (by omega)
          go_wp2
          simp only [Exit.jump]
          go_ret
          exact ⟨ret_bool (by rw [hX.out, HE.out]; simp [hst]), Below.refl _ _⟩
        · have hb : ((s.size : Int) == 3) = false := beq_eq_false_iff_ne.2 (by omega)
          go_wp2
          simp only [Exit.jump]
          go_ret
          exact ⟨ret_bool (by rw [hX.out, HE.out]; simp [hst]), Below.refl _ _⟩
      | succ g =>
        have hiM : (i : Int) < (M : Int) := by omega
        have hisz : (i : Int) < (s.size : Int) := by omega
        have hit : (i : Int) < 3 := by omega
        obtain ⟨x, hx⟩ : ∃ x : UInt8, s[i]'(by omega) = x := ⟨_, rfl⟩
        have hxl : s.data.toList[i]? = some x := by rw [← hx]; exact Lib.data_getElem? s i (by omega)
        have Hx := Kept.mk hxl
        have HX2 := Kept.mk hx
        clear hxl
        rcases (by omega : i = 0 ∨ i = 1 ∨ i = 2) with rfl | rfl | rfl

        · have hI : Lib.equalFold (x :: s.data.toList.drop (0 + 1)) (120 :: [109, 108]) = Lib.equalFold s.data.toList [120, 109, 108] := by rw [← HI.out, Lib.drop_at Hx.out]; rfl
          have HI2 := Kept.mk hI
          clear hI
          by_cases hx128 : x.toNat < 128
          · have hor : bits .or .u8 (x.toNat : Int) 120 = ((x.toNat ||| 120 : Nat) : Int) := u8_or_nat x.toNat 120 (by omega) (by omega)
            have hor128 : ¬ ((128 : Int) ≤ ((x.toNat ||| 120 : Nat) : Int)) := by have := Nat.or_lt_two_pow (n := 7) hx128 (show 120 < 2 ^ 7 by omega); omega
            have ht8 : ((⟨#[120, 109, 108]⟩ : ByteArray)[0]'(by decide)).toNat = 120 := rfl
            have ht9 : (120 : UInt8).toNat = 120 := rfl
            go_wp2
            all_goals (try simp only [beq_iff_eq, beq_eq_false_iff_ne, ne_eq] at *)
            all_goals first
              | (go_roundg g
                 case measure => omega
                 case rel => exact ⟨rfl, 1, by omega, by first | rfl | simp, by rw [← HI2.out, Lib.equalFold_yes _ _ _ _ (decide_eq_true (by omega))]; rfl⟩)
              | (simp only [Exit.jump]
                 go_ret
                 refine ⟨ret_bool ?_, Below.refl _ _⟩
                 rw [hX.out, ← HI2.out, Lib.equalFold_no _ _ _ _ (decide_eq_false (by omega))])
          · have hor : bits .or .u8 (x.toNat : Int) 120 = ((x.toNat ||| 120 : Nat) : Int) := u8_or_nat x.toNat 120 (by have := UInt8.toNat_lt x; omega) (by omega)
            have hor128 : ((128 : Int) ≤ ((x.toNat ||| 120 : Nat) : Int)) := by have := Nat.left_le_or (n := x.toNat) (m := 120); omega
            have ht8 : ((⟨#[120, 109, 108]⟩ : ByteArray)[0]'(by decide)).toNat = 120 := rfl
            have hF : Kept (Ptr.isXml s.data.toList = false) := ⟨by rw [hX.out, ← HI2.out, Lib.equalFold_no x 120 _ _ (fold_high x 120 (by omega) (by omega))]⟩
            go_wp2
            go_step3
            exact ⟨rfl, rfl, 0, by omega, by omega, by rw [HX2.out]; omega, hF, lit_of s 0 _ rfl rfl rfl rfl rfl⟩
        · have hI : Lib.equalFold (x :: s.data.toList.drop (1 + 1)) (109 :: [108]) = Lib.equalFold s.data.toList [120, 109, 108] := by rw [← HI.out, Lib.drop_at Hx.out]; rfl
          have HI2 := Kept.mk hI
          clear hI
          by_cases hx128 : x.toNat < 128
          · have hor : bits .or .u8 (x.toNat : Int) 109 = ((x.toNat ||| 109 : Nat) : Int) := u8_or_nat x.toNat 109 (by omega) (by omega)
            have hor128 : ¬ ((128 : Int) ≤ ((x.toNat ||| 109 : Nat) : Int)) := by have := Nat.or_lt_two_pow (n := 7) hx128 (show 109 < 2 ^ 7 by omega); omega
            have ht8 : ((⟨#[120, 109, 108]⟩ : ByteArray)[1]'(by decide)).toNat = 109 := rfl
            have ht9 : (109 : UInt8).toNat = 109 := rfl
            go_wp2
            all_goals (try simp only [beq_iff_eq, beq_eq_false_iff_ne, ne_eq] at *)
            all_goals first
              | (go_roundg g
                 case measure => omega
                 case rel => exact ⟨rfl, 2, by omega, by first | rfl | simp, by rw [← HI2.out, Lib.equalFold_yes _ _ _ _ (decide_eq_true (by omega))]; rfl⟩)
              | (simp only [Exit.jump]
                 go_ret
                 refine ⟨ret_bool ?_, Below.refl _ _⟩
                 rw [hX.out, ← HI2.out, Lib.equalFold_no _ _ _ _ (decide_eq_false (by omega))])
          · have hor : bits .or .u8 (x.toNat : Int) 109 = ((x.toNat ||| 109 : Nat) : Int) := u8_or_nat x.toNat 109 (by have := UInt8.toNat_lt x; omega) (by omega)
            have hor128 : ((128 : Int) ≤ ((x.toNat ||| 109 : Nat) : Int)) := by have := Nat.left_le_or (n := x.toNat) (m := 109); omega
            have ht8 : ((⟨#[120, 109, 108]⟩ : ByteArray)[1]'(by decide)).toNat = 109 := rfl
            have hF : Kept (Ptr.isXml s.data.toList = false) := ⟨by rw [hX.out, ← HI2.out, Lib.equalFold_no x 109 _ _ (fold_high x 109 (by omega) (by omega))]⟩
            go_wp2
            go_step3
            exact ⟨rfl, rfl, 1, by omega, by omega, by rw [HX2.out]; omega, hF, lit_of s 1 _ rfl rfl rfl rfl rfl⟩
        · have hI : Lib.equalFold (x :: s.data.toList.drop (2 + 1)) (108 :: []) = Lib.equalFold s.data.toList [120, 109, 108] := by rw [← HI.out, Lib.drop_at Hx.out]; rfl
          have HI2 := Kept.mk hI
          clear hI
          by_cases hx128 : x.toNat < 128
          · have hor : bits .or .u8 (x.toNat : Int) 108 = ((x.toNat ||| 108 : Nat) : Int) := u8_or_nat x.toNat 108 (by omega) (by omega)
            have hor128 : ¬ ((128 : Int) ≤ ((x.toNat ||| 108 : Nat) : Int)) := by have := Nat.or_lt_two_pow (n := 7) hx128 (show 108 < 2 ^ 7 by omega); omega
            have ht8 : ((⟨#[120, 109, 108]⟩ : ByteArray)[2]'(by decide)).toNat = 108 := rfl
            have ht9 : (108 : UInt8).toNat = 108 := rfl
            go_wp2
            all_goals (try simp only [beq_iff_eq, beq_eq_false_iff_ne, ne_eq] at *)
            all_goals first
              | (go_roundg g
                 case measure => omega
                 case rel => exact ⟨rfl, 3, by omega, by first | rfl | simp, by rw [← HI2.out, Lib.equalFold_yes _ _ _ _ (decide_eq_true (by omega))]; rfl⟩)
              | (simp only [Exit.jump]
                 go_ret
                 refine ⟨ret_bool ?_, Below.refl _ _⟩
                 rw [hX.out, ← HI2.out, Lib.equalFold_no _ _ _ _ (decide_eq_false (by omega))])
          · have hor : bits .or .u8 (x.toNat : Int) 108 = ((x.toNat ||| 108 : Nat) : Int) := u8_or_nat x.toNat 108 (by have := UInt8.toNat_lt x; omega) (by omega)
            have hor128 : ((128 : Int) ≤ ((x.toNat ||| 108 : Nat) : Int)) := by have := Nat.left_le_or (n := x.toNat) (m := 108); omega
            have ht8 : ((⟨#[120, 109, 108]⟩ : ByteArray)[2]'(by decide)).toNat = 108 := rfl
            have hF : Kept (Ptr.isXml s.data.toList = false) := ⟨by rw [hX.out, ← HI2.out, Lib.equalFold_no x 108 _ _ (fold_high x 108 (by omega) (by omega))]⟩
            go_wp2
            go_step3
            exact ⟨rfl, rfl, 2, by omega, by omega, by rw [HX2.out]; omega, hF, lit_of s 2 _ rfl rfl rfl rfl rfl⟩
  · rintro a' w' ⟨rfl, i, hi, hi3, hb, hF, u, rfl⟩
    have HB := Kept.mk hb
    clear hb hM hX
    rcases (by omega : i = 0 ∨ i = 1 ∨ i = 2) with rfl | rfl | rfl
    · have hS0 := HB.out
      have z0 : 0 < s.size := hi
      have HZ : Kept (128 ≤ (s[0]'z0).toNat) := ⟨hS0⟩
      clear hS0
      go_wp2
      go_loopg [1] 1 (fun g t1 wx => t1 = .string ⟨#[120, 109, 108]⟩ ∧ g = 1 ∧ wx.heap[w.heap.size]? = some (.stringIter s 0) ∧ Below w.heap.size w wx)
      case atStart => exact ⟨rfl, rfl, World.iter_heap w s 0, (Below.refl _ w).alloc (Nat.le_refl _) _⟩
      case round =>
        obtain ⟨rfl, rfl, hit, hbw⟩ := hrel
        have hsz : w.heap.size < wr.heap.size := (Array.getElem?_eq_some_iff.1 hit).1
        have hnx : ∀ ty, (Instr.next (.pointer (some ⟨w.heap.size, 0, none⟩)) true ty).run Tryz.prog wr = _ := fun ty => Lib.run_next_any_at wr w.heap.size s 0 ty hit z0
        have hdh := decode_high s 0 z0 HZ.out
        obtain ⟨R, hR⟩ : ∃ R, (Utf8.decode s 0).1 = R := ⟨_, rfl⟩
        obtain ⟨K, hK⟩ : ∃ K, (Utf8.decode s 0).2 = K := ⟨_, rfl⟩
        rw [hR] at hnx hdh
        rw [hK] at hnx
        have hbw2 := Lib.below_iterAt hbw (k := w.heap.size) (Nat.le_refl _) s (0 + K)
        obtain ⟨W, hWd⟩ : ∃ W, wr.iterAt w.heap.size s (0 + K) = W := ⟨_, rfl⟩
        rw [hWd] at hnx hbw2
        have hTW : Kept (FoldTab W) := ⟨HT.out.below hbw2⟩
        have HBW := Kept.mk hbw2
        have f1 : ((120 : Int) == (R : Int)) = false := by simp; omega
        have f2 : (120 : Int) < (R : Int) := by omega
        have f3 : ¬ (R : Int) < 128 := by omega
        have f4 : (88 : Int) < (R : Int) := by omega
        have f5 : ¬ (R : Int) < 120 := by omega
        clear hR hK hWd hdh hbw hbw2 hit
        go_wp2_with (first | (go_at_call 69; refine (dec_120 W).mono ?_; rintro e w2 ⟨rfl, rfl⟩) | (go_at_call 117; refine (sfold_120 W hTW.out).mono ?_; rintro e w3 ⟨rfl, rfl⟩))
        go_loopg [13] 2 (fun g r wx => W = wx ∧ ((g = 2 ∧ r = .int .i32 88) ∨ (g = 1 ∧ r = .int .i32 120)))
        case atStart => exact ⟨rfl, .inl ⟨rfl, rfl⟩⟩
        case round =>
          obtain ⟨rfl, ⟨rfl, rfl⟩ | ⟨rfl, rfl⟩⟩ := hrel
          · go_wp2_with (go_at_call 117; refine (sfold_88 W hTW.out).mono ?_; rintro e w3 ⟨rfl, rfl⟩)
            go_roundg 1
            case measure => omega
            case rel => exact ⟨rfl, .inr ⟨rfl, rfl⟩⟩
          · go_wp2
            simp only [Exit.jump]
            go_ret
            exact ⟨ret_bool hF.out.symm, HBW.out⟩
    · obtain ⟨S', hS'⟩ : ∃ S', s.extract 1 s.size = S' := ⟨_, rfl⟩
      have z0 : 0 < S'.size := by rw [← hS', ByteArray.size_extract]; omega
      have HZ : Kept (128 ≤ (S'[0]'z0).toNat) := ⟨by have h := HB.out; subst hS'; rw [ByteArray.getElem_extract]; exact h⟩
      have hT : (⟨#[120, 109, 108]⟩ : ByteArray).extract 1 3 = ⟨#[109, 108]⟩ := rfl
      have k0 : (1 : Int) ≤ (s.size : Int) := by omega
      go_wp2
      go_loopg [1] 1 (fun g t1 wx => t1 = .string ⟨#[109, 108]⟩ ∧ g = 1 ∧ wx.heap[w.heap.size]? = some (.stringIter S' 0) ∧ Below w.heap.size w wx)
      case atStart => exact ⟨rfl, rfl, World.iter_heap w S' 0, (Below.refl _ w).alloc (Nat.le_refl _) _⟩
      case round =>
        obtain ⟨rfl, rfl, hit, hbw⟩ := hrel
        have hsz : w.heap.size < wr.heap.size := (Array.getElem?_eq_some_iff.1 hit).1
        have hnx : ∀ ty, (Instr.next (.pointer (some ⟨w.heap.size, 0, none⟩)) true ty).run Tryz.prog wr = _ := fun ty => Lib.run_next_any_at wr w.heap.size S' 0 ty hit z0
        have hdh := decode_high S' 0 z0 HZ.out
        obtain ⟨R, hR⟩ : ∃ R, (Utf8.decode S' 0).1 = R := ⟨_, rfl⟩
        obtain ⟨K, hK⟩ : ∃ K, (Utf8.decode S' 0).2 = K := ⟨_, rfl⟩
        rw [hR] at hnx hdh
        rw [hK] at hnx
        have hbw2 := Lib.below_iterAt hbw (k := w.heap.size) (Nat.le_refl _) S' (0 + K)
        obtain ⟨W, hWd⟩ : ∃ W, wr.iterAt w.heap.size S' (0 + K) = W := ⟨_, rfl⟩
        rw [hWd] at hnx hbw2
        have hTW : Kept (FoldTab W) := ⟨HT.out.below hbw2⟩
        have HBW := Kept.mk hbw2
        have f1 : ((109 : Int) == (R : Int)) = false := by simp; omega
        have f2 : (109 : Int) < (R : Int) := by omega
        have f3 : ¬ (R : Int) < 128 := by omega
        have f4 : (77 : Int) < (R : Int) := by omega
        have f5 : ¬ (R : Int) < 109 := by omega
        clear hR hK hWd hdh hbw hbw2 hit
        go_wp2_with (first | (go_at_call 69; refine (dec_109 W).mono ?_; rintro e w2 ⟨rfl, rfl⟩) | (go_at_call 117; refine (sfold_109 W hTW.out).mono ?_; rintro e w3 ⟨rfl, rfl⟩))
        go_loopg [13] 2 (fun g r wx => W = wx ∧ ((g = 2 ∧ r = .int .i32 77) ∨ (g = 1 ∧ r = .int .i32 109)))
        case atStart => exact ⟨rfl, .inl ⟨rfl, rfl⟩⟩
        case round =>
          obtain ⟨rfl, ⟨rfl, rfl⟩ | ⟨rfl, rfl⟩⟩ := hrel
          · go_wp2_with (go_at_call 117; refine (sfold_77 W hTW.out).mono ?_; rintro e w3 ⟨rfl, rfl⟩)
            go_roundg 1
            case measure => omega
            case rel => exact ⟨rfl, .inr ⟨rfl, rfl⟩⟩
          · go_wp2
            simp only [Exit.jump]
            go_ret
            exact ⟨ret_bool hF.out.symm, HBW.out⟩
    · obtain ⟨S', hS'⟩ : ∃ S', s.extract 2 s.size = S' := ⟨_, rfl⟩
      have z0 : 0 < S'.size := by rw [← hS', ByteArray.size_extract]; omega
      have HZ : Kept (128 ≤ (S'[0]'z0).toNat) := ⟨by have h := HB.out; subst hS'; rw [ByteArray.getElem_extract]; exact h⟩
      have hT : (⟨#[120, 109, 108]⟩ : ByteArray).extract 2 3 = ⟨#[108]⟩ := rfl
      have k0 : (2 : Int) ≤ (s.size : Int) := by omega
      go_wp2
      go_loopg [1] 1 (fun g t1 wx => t1 = .string ⟨#[108]⟩ ∧ g = 1 ∧ wx.heap[w.heap.size]? = some (.stringIter S' 0) ∧ Below w.heap.size w wx)
      case atStart => exact ⟨rfl, rfl, World.iter_heap w S' 0, (Below.refl _ w).alloc (Nat.le_refl _) _⟩
      case round =>
        obtain ⟨rfl, rfl, hit, hbw⟩ := hrel
        have hsz : w.heap.size < wr.heap.size := (Array.getElem?_eq_some_iff.1 hit).1
        have hnx : ∀ ty, (Instr.next (.pointer (some ⟨w.heap.size, 0, none⟩)) true ty).run Tryz.prog wr = _ := fun ty => Lib.run_next_any_at wr w.heap.size S' 0 ty hit z0
        have hdh := decode_high S' 0 z0 HZ.out
        obtain ⟨R, hR⟩ : ∃ R, (Utf8.decode S' 0).1 = R := ⟨_, rfl⟩
        obtain ⟨K, hK⟩ : ∃ K, (Utf8.decode S' 0).2 = K := ⟨_, rfl⟩
        rw [hR] at hnx hdh
        rw [hK] at hnx
        have hbw2 := Lib.below_iterAt hbw (k := w.heap.size) (Nat.le_refl _) S' (0 + K)
        obtain ⟨W, hWd⟩ : ∃ W, wr.iterAt w.heap.size S' (0 + K) = W := ⟨_, rfl⟩
        rw [hWd] at hnx hbw2
        have hTW : Kept (FoldTab W) := ⟨HT.out.below hbw2⟩
        have HBW := Kept.mk hbw2
        have f1 : ((108 : Int) == (R : Int)) = false := by simp; omega
        have f2 : (108 : Int) < (R : Int) := by omega
        have f3 : ¬ (R : Int) < 128 := by omega
        have f4 : (76 : Int) < (R : Int) := by omega
        have f5 : ¬ (R : Int) < 108 := by omega
        clear hR hK hWd hdh hbw hbw2 hit
        go_wp2_with (first | (go_at_call 69; refine (dec_108 W).mono ?_; rintro e w2 ⟨rfl, rfl⟩) | (go_at_call 117; refine (sfold_108 W hTW.out).mono ?_; rintro e w3 ⟨rfl, rfl⟩))
        go_loopg [13] 2 (fun g r wx => W = wx ∧ ((g = 2 ∧ r = .int .i32 76) ∨ (g = 1 ∧ r = .int .i32 108)))
        case atStart => exact ⟨rfl, .inl ⟨rfl, rfl⟩⟩
        case round =>
          obtain ⟨rfl, ⟨rfl, rfl⟩ | ⟨rfl, rfl⟩⟩ := hrel
          · go_wp2_with (go_at_call 117; refine (sfold_76 W hTW.out).mono ?_; rintro e w3 ⟨rfl, rfl⟩)
            go_roundg 1
            case measure => omega
            case rel => exact ⟨rfl, .inr ⟨rfl, rfl⟩⟩
          · go_wp2
            simp only [Exit.jump]
            go_ret
            exact ⟨ret_bool hF.out.symm, HBW.out⟩
end Go.Proofs.YtlemdhfekdiaeaaGreatDoor.Wtr
