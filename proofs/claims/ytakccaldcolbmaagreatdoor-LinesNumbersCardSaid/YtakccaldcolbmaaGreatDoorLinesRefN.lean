/- The walk over the document's number (chapter 31; KeyRefWhole's walk at another function). -/
import Derived.Test.YtakccaldcolbmaaGreatDoorLinesRefW
import Derived.Lib.SmallJoins
import Derived.Lib.AppendIntMem
import Derived.WalkSmall
import Derived.WalkSpells
import Derived.WalkLawsBesides
namespace Go.Proofs.YtakccaldcolbmaaGreatDoor.Wk
open Go Go.RowKit Go.Proofs.YtakccaldcolbmaaGreatDoor.Kb

theorem ret_whole {a c : Int} {x y : Bool} (h : a = c) (h' : x = y) : Ending.returned (.tuple #[.int .i64 a, .bool x]) = .returned (.tuple #[.int .i64 c, .bool y]) := by rw [h, h']
theorem dv_lt : ∀ (l : List UInt8) (a : Nat), l.all Pk.dgt = true → Pk.dv a l < (a + 1) * 10 ^ l.length
  | [], a, _ => by rw [Pk.dv_nil, List.length_nil, Nat.pow_zero]; omega
  | c :: l, a, h => by
    rw [List.all_cons, Bool.and_eq_true, Pk.dgt_iff] at h
    have h1 := dv_lt l (10 * a + c.toNat % 48) h.2
    rw [Pk.dv_cons, List.length_cons, Nat.pow_succ]
    have e : (10 * a + c.toNat % 48 + 1) * 10 ^ l.length ≤ (10 * (a + 1)) * 10 ^ l.length := Nat.mul_le_mul_right _ (by omega)
    have e2 : (10 * (a + 1)) * 10 ^ l.length = (a + 1) * (10 ^ l.length * 10) := by rw [Nat.mul_comm 10 (a + 1), Nat.mul_assoc, Nat.mul_comm 10]
    omega
theorem dv_small (l : List UInt8) (h : l.all Pk.dgt = true) (k : Nat) (hk : l.length ≤ k) (h18 : k ≤ 19) : Pk.dv 0 l < 10000000000000000000 := by
  have h1 := dv_lt l 0 h
  have h2 : 10 ^ l.length ≤ 10 ^ 19 := Nat.pow_le_pow_right (by omega) (by omega)
  have h3 : (10 : Nat) ^ 19 = 10000000000000000000 := by decide
  omega
theorem dv_small18 (l : List UInt8) (h : l.all Pk.dgt = true) (h18 : l.length ≤ 18) : Pk.dv 0 l < 1000000000000000000 := by
  have h1 := dv_lt l 0 h
  have h2 : 10 ^ l.length ≤ 10 ^ 18 := Nat.pow_le_pow_right (by omega) (by omega)
  have h3 : (10 : Nat) ^ 18 = 1000000000000000000 := by decide
  omega
theorem take_snoc (l : List UInt8) (k : Nat) (h : k < l.length) : l.take (k + 1) = l.take k ++ [l.getD k 0] := by
  rw [List.take_succ_eq_append_getElem h]
  simp [List.getD, List.getElem?_eq_getElem h]
theorem all_take (l : List UInt8) (k : Nat) (h : k < l.length) (h1 : (l.take k).all Pk.dgt = true) (h2 : Pk.dgt (l.getD k 0) = true) : (l.take (k + 1)).all Pk.dgt = true := by
  rw [take_snoc l k h, List.all_append, List.all_cons, List.all_nil, h1, h2]
  rfl
theorem all_not (l : List UInt8) (k : Nat) (h : k < l.length) (h2 : Pk.dgt (l.getD k 0) = false) : l.all Pk.dgt = false := by
  rw [List.all_eq_false]
  refine ⟨l.getD k 0, ?_, by rw [h2]; decide⟩
  rw [show l.getD k 0 = l[k] by simp [List.getD, List.getElem?_eq_getElem h]]
  exact List.getElem_mem h
theorem byte_getD (s : ByteArray) (k : Nat) (h : k < s.size) : s.data.toList.getD k 0 = s[k] := by
  have hlt : k < s.data.toList.length := by rw [Array.length_toList]; exact h
  simp only [List.getD, List.getElem?_eq_getElem hlt, Option.getD_some, Array.getElem_toList]
  rfl
theorem step_num (U c : Nat) (hU : U < 1000000000000000000) (h0 : 48 ≤ c) (h1 : c ≤ 57) : IntKind.u64.wrap (IntKind.u64.wrap (10 * (U : Int)) + ((c : Int) - 48)) = ((10 * U + c % 48 : Nat) : Int) := by
  rw [IntKind.wrap_u64, IntKind.wrap_u64]
  omega
theorem neg_num (U : Nat) (h : U ≤ 9223372036854775808) : IntKind.i64.wrap (IntKind.u64.wrap (-(U : Int))) = -(U : Int) := by
  rw [IntKind.wrap_u64, IntKind.wrap_i64]
  omega
theorem pos_num (U : Nat) (u : Int) (hu : (U : Int) = u) (h : u < 9223372036854775808) : IntKind.i64.wrap u = (U : Int) := by
  rw [IntKind.wrap_i64]
  omega
theorem dig_none {neg : Bool} {d : List UInt8} (h : d = [] ∨ 19 < d.length ∨ (d.head? = some 48 ∧ (1 < d.length ∨ neg = true)) ∨ d.all Pk.dgt = false) : Pk.digL neg d = none := by
  unfold Pk.digL
  split
  · rfl
  · rename_i h0
    rcases h with h | h | h | h
    · exact absurd (.inl h) h0
    · exact absurd (.inr (.inl h)) h0
    · exact absurd (.inr (.inr h)) h0
    · rw [if_neg (by rw [h]; decide)]

set_option maxRecDepth 100000 in
set_option maxHeartbeats 4000000 in
theorem refWhole_neg (s D : ByteArray) (w : World) (hs : s.size ≤ 281474976710656) (h0 : 0 < s.size) (h45 : (s[0].toNat : Int) = 45) (hD : s.extract 1 s.size = D) :
    Calls Tryz.prog 116 #[.string s] w fun e w' => e = .returned (.tuple #[.int .i64 ((Pk.digL true D.data.toList).getD 0), .bool (Pk.digL true D.data.toList).isSome]) ∧ Below w.heap.size w w' := by
  have hd : D.size ≤ 281474976710656 := by rw [← hD, ByteArray.size_extract]; omega
  have hl : D.data.toList.length = D.size := by rw [Array.length_toList]; rfl
  by_cases c1 : D.size = 0
  · skip
    have HN := Kept.mk (dig_none (neg := true) (d := D.data.toList) (.inl (List.eq_nil_of_length_eq_zero (by omega))))
    clear hl
    go_enter Tryz.func116, Tryz.ntmps116
    go_upto_region 5 with (fail)
    go_wp2
    all_goals (go_ret2; exact ⟨ret_whole (by rw [HN.out]; rfl) (by rw [HN.out]; rfl), Below.refl _ _⟩)
  have hp : 0 < D.size := by omega
  by_cases c2 : 19 < D.size
  · skip
    have HN := Kept.mk (dig_none (neg := true) (d := D.data.toList) (.inr (.inl (by omega))))
    clear hl
    go_enter Tryz.func116, Tryz.ntmps116
    go_upto_region 5 with (fail)
    go_wp2
    all_goals (go_ret2; exact ⟨ret_whole (by rw [HN.out]; rfl) (by rw [HN.out]; rfl), Below.refl _ _⟩)
  have hh : D.data.toList.head? = some D[0] := by
    rw [← byte_getD D 0 hp, List.getD, ← List.head?_eq_getElem?]
    cases hq : D.data.toList.head? with
    | none => rw [List.head?_eq_none_iff] at hq; rw [hq] at hl; simp at hl; omega
    | some x => rfl
  by_cases c3 : (D[0].toNat : Int) = 48
  · have e48 : D[0] = 48 := UInt8.toNat_inj.1 (by have : (48 : UInt8).toNat = 48 := rfl; omega)
    have HN := Kept.mk (dig_none (neg := true) (d := D.data.toList) (.inr (.inr (.inl ⟨by rw [hh, e48], .inr rfl⟩))))
    clear hl
    go_enter Tryz.func116, Tryz.ntmps116
    go_upto_region 5 with (fail)
    go_wp2
    all_goals (go_ret2; exact ⟨ret_whole (by rw [HN.out]; rfl) (by rw [HN.out]; rfl), Below.refl _ _⟩)
  have HF : Kept (∀ k, k < D.size → Pk.dgt (D.data.toList.getD k 0) = false → Pk.digL true D.data.toList = none) := ⟨fun k hk h => dig_none (.inr (.inr (.inr (all_not _ k (by omega) h))))⟩
  have HT : Kept (D.data.toList.all Pk.dgt = true → Pk.digL true D.data.toList = if Pk.dv 0 D.data.toList ≤ 9223372036854775808 then some (-(Pk.dv 0 D.data.toList : Int)) else none) := ⟨fun ha => by
    unfold Pk.digL
    rw [if_neg, if_pos ha]
    · rw [if_pos rfl]
    · rintro (e | e | ⟨e, e2⟩)
      · rw [e] at hl; simp at hl; omega
      · omega
      · rw [hh] at e; injection e with e; have e3 : D[0].toNat = 48 := by rw [e]; rfl
        omega⟩
  have HL := Kept.mk hl
  clear hh hl
  have k1 : ((D.size : Int) == 0) = false := by rw [beq_eq_false_iff_ne]; omega
  have k2 : ¬ (19 : Int) < D.size := by omega
  go_enter Tryz.func116, Tryz.ntmps116
  go_upto_region 5 with (fail)
  go_wp2
  all_goals try (exfalso; simp at *; omega)
  go_loopw [6, 7] (fun u i wr => ∃ k : Nat, k ≤ D.size ∧ i = .int .i64 k ∧ u = .int .u64 (Pk.dv 0 (D.data.toList.take k)) ∧ (D.data.toList.take k).all Pk.dgt = true ∧ Below w.heap.size w wr) (fun _ i _ => D.size - (intOf i).toNat)
  case atStart => exact ⟨0, Nat.zero_le _, rfl, rfl, rfl, Below.refl _ _⟩
  case round =>
    obtain ⟨k, hk, rfl, rfl, ha, hb⟩ := hrel
    by_cases hlt : k < D.size
    · have hx := byte_getD D k hlt
      by_cases hc : (48 : Int) ≤ D[k].toNat ∧ (D[k].toNat : Int) ≤ 57
      · have hdg : Pk.dgt (D.data.toList.getD k 0) = true := by rw [hx, Pk.dgt_iff]; omega
        have HA := Kept.mk (all_take D.data.toList k (by rw [HL.out]; exact hlt) ha hdg)
        have HU := Kept.mk (dv_small18 _ ha (by rw [List.length_take]; omega))
        have HS : Kept (Pk.dv 0 (D.data.toList.take (k + 1)) = 10 * Pk.dv 0 (D.data.toList.take k) + D[k].toNat % 48) := ⟨by rw [take_snoc D.data.toList k (by rw [HL.out]; exact hlt), Pk.dv_snoc, hx]⟩
        clear ha hdg hx HF HT
        generalize Pk.dv 0 (D.data.toList.take k) = U at HU HS
        obtain ⟨hc0, hc1⟩ := hc
        go_wp2
        go_roundw
        case rel => exact ⟨k + 1, by omega, by go_num, congrArg _ ((step_num U _ HU.out (by omega) (by omega)).trans (by rw [HS.out])), HA.out, hb⟩
        case measure => simp [intOf]; omega
      · have HN := Kept.mk (HF.out k hlt (by
          rw [hx]
          cases hq : Pk.dgt D[k] with
          | false => rfl
          | true => rw [Pk.dgt_iff] at hq; exfalso; apply hc; omega))
        clear ha hx HF HT
        generalize Pk.dv 0 (D.data.toList.take k) = U
        go_wp2
        all_goals first
          | (exfalso; simp at *; omega)
          | (go_ret2; exact ⟨ret_whole (by rw [HN.out]; rfl) (by rw [HN.out]; rfl), hb⟩)
    · obtain rfl : k = D.size := by omega
      rw [List.take_of_length_le (by rw [HL.out]; exact Nat.le_refl _)] at ha ⊢
      have HN := Kept.mk (HT.out ha)
      clear ha HF HT
      generalize Pk.dv 0 D.data.toList = U at HN
      go_wp2
      all_goals first
        | (go_ret2
           exact ⟨ret_whole (by rw [HN.out, if_pos (by omega)]; exact (IntWalk.i64_left _).symm.trans (neg_num U (by omega))) (by rw [HN.out, if_pos (by omega)]; rfl), hb⟩)
        | (go_ret2
           exact ⟨ret_whole (by rw [HN.out, if_neg (by omega)]; rfl) (by rw [HN.out, if_neg (by omega)]; rfl), hb⟩)

set_option maxRecDepth 100000 in
set_option maxHeartbeats 4000000 in
theorem refWhole_pos (D : ByteArray) (w : World) (hd : D.size ≤ 281474976710656) (h45 : ∀ h : 0 < D.size, ¬ ((D[0].toNat : Int) = 45)) :
    Calls Tryz.prog 116 #[.string D] w fun e w' => e = .returned (.tuple #[.int .i64 ((Pk.digL false D.data.toList).getD 0), .bool (Pk.digL false D.data.toList).isSome]) ∧ Below w.heap.size w w' := by
  have hl : D.data.toList.length = D.size := by rw [Array.length_toList]; rfl
  by_cases c1 : D.size = 0
  · clear h45
    have HN := Kept.mk (dig_none (neg := false) (d := D.data.toList) (.inl (List.eq_nil_of_length_eq_zero (by omega))))
    clear hl
    go_enter Tryz.func116, Tryz.ntmps116
    go_wp2
    all_goals (go_ret2; exact ⟨ret_whole (by rw [HN.out]; rfl) (by rw [HN.out]; rfl), Below.refl _ _⟩)
  have hp : 0 < D.size := by omega
  have hn := h45 hp
  clear h45
  by_cases c2 : 19 < D.size
  · skip
    have HN := Kept.mk (dig_none (neg := false) (d := D.data.toList) (.inr (.inl (by omega))))
    clear hl
    go_enter Tryz.func116, Tryz.ntmps116
    go_wp2
    all_goals (go_ret2; exact ⟨ret_whole (by rw [HN.out]; rfl) (by rw [HN.out]; rfl), Below.refl _ _⟩)
  have hh : D.data.toList.head? = some D[0] := by
    rw [← byte_getD D 0 hp, List.getD, ← List.head?_eq_getElem?]
    cases hq : D.data.toList.head? with
    | none => rw [List.head?_eq_none_iff] at hq; rw [hq] at hl; simp at hl; omega
    | some x => rfl
  by_cases c3 : (D[0].toNat : Int) = 48 ∧ 1 < D.size
  · obtain ⟨c3, c4⟩ := c3
    have e48 : D[0] = 48 := UInt8.toNat_inj.1 (by have : (48 : UInt8).toNat = 48 := rfl; omega)
    have HN := Kept.mk (dig_none (neg := false) (d := D.data.toList) (.inr (.inr (.inl ⟨by rw [hh, e48], .inl (by omega)⟩))))
    clear hl
    go_enter Tryz.func116, Tryz.ntmps116
    go_wp2
    all_goals (go_ret2; exact ⟨ret_whole (by rw [HN.out]; rfl) (by rw [HN.out]; rfl), Below.refl _ _⟩)
  have HF : Kept (∀ k, k < D.size → Pk.dgt (D.data.toList.getD k 0) = false → Pk.digL false D.data.toList = none) := ⟨fun k hk h => dig_none (.inr (.inr (.inr (all_not _ k (by omega) h))))⟩
  have HT : Kept (D.data.toList.all Pk.dgt = true → Pk.digL false D.data.toList = if Pk.dv 0 D.data.toList < 9223372036854775808 then some ((Pk.dv 0 D.data.toList : Int)) else none) := ⟨fun ha => by
    unfold Pk.digL
    rw [if_neg, if_pos ha]
    · rw [if_neg (by decide)]
    · rintro (e | e | ⟨e, e2⟩)
      · rw [e] at hl; simp at hl; omega
      · omega
      · rw [hh] at e; injection e with e; have e3 : D[0].toNat = 48 := by rw [e]; rfl
        simp at e2; omega⟩
  have HL := Kept.mk hl
  clear hh hl
  have k1 : ((D.size : Int) == 0) = false := by rw [beq_eq_false_iff_ne]; omega
  have k2 : ¬ (19 : Int) < D.size := by omega
  by_cases c4 : (D[0].toNat : Int) = 48
  · have c5 : ¬ (1 : Int) < D.size := fun h => c3 ⟨c4, by omega⟩
    clear c3
    go_enter Tryz.func116, Tryz.ntmps116
    go_wp2
    all_goals try (exfalso; simp at *; omega)
    go_loopw [6, 7] (fun u i wr => ∃ k : Nat, k ≤ D.size ∧ i = .int .i64 k ∧ u = .int .u64 (Pk.dv 0 (D.data.toList.take k)) ∧ (D.data.toList.take k).all Pk.dgt = true ∧ Below w.heap.size w wr) (fun _ i _ => D.size - (intOf i).toNat)
    case atStart => exact ⟨0, Nat.zero_le _, rfl, rfl, rfl, Below.refl _ _⟩
    case round =>
      obtain ⟨k, hk, rfl, rfl, ha, hb⟩ := hrel
      by_cases hlt : k < D.size
      · have hx := byte_getD D k hlt
        by_cases hc : (48 : Int) ≤ D[k].toNat ∧ (D[k].toNat : Int) ≤ 57
        · have hdg : Pk.dgt (D.data.toList.getD k 0) = true := by rw [hx, Pk.dgt_iff]; omega
          have HA := Kept.mk (all_take D.data.toList k (by rw [HL.out]; exact hlt) ha hdg)
          have HU := Kept.mk (dv_small18 _ ha (by rw [List.length_take]; omega))
          have HS : Kept (Pk.dv 0 (D.data.toList.take (k + 1)) = 10 * Pk.dv 0 (D.data.toList.take k) + D[k].toNat % 48) := ⟨by rw [take_snoc D.data.toList k (by rw [HL.out]; exact hlt), Pk.dv_snoc, hx]⟩
          clear ha hdg hx HF HT
          generalize Pk.dv 0 (D.data.toList.take k) = U at HU HS
          obtain ⟨hc0, hc1⟩ := hc
          go_wp2
          go_roundw
          case rel => exact ⟨k + 1, by omega, by go_num, congrArg _ ((step_num U _ HU.out (by omega) (by omega)).trans (by rw [HS.out])), HA.out, hb⟩
          case measure => simp [intOf]; omega
        · have HN := Kept.mk (HF.out k hlt (by
            rw [hx]
            cases hq : Pk.dgt D[k] with
            | false => rfl
            | true => rw [Pk.dgt_iff] at hq; exfalso; apply hc; omega))
          clear ha hx HF HT
          generalize Pk.dv 0 (D.data.toList.take k) = U
          go_wp2
          all_goals first
            | (exfalso; simp at *; omega)
            | (go_ret2; exact ⟨ret_whole (by rw [HN.out]; rfl) (by rw [HN.out]; rfl), hb⟩)
      · obtain rfl : k = D.size := by omega
        rw [List.take_of_length_le (by rw [HL.out]; exact Nat.le_refl _)] at ha ⊢
        have HN := Kept.mk (HT.out ha)
        clear ha HF HT
        generalize Pk.dv 0 D.data.toList = U at HN
        obtain ⟨u, hu⟩ : ∃ u : Int, (U : Int) = u := ⟨_, rfl⟩
        rw [hu]
        have HU := Kept.mk hu
        clear hu
        go_wp2
        all_goals first
          | (go_ret2
             exact ⟨ret_whole (by rw [HN.out, if_pos (by have := HU.out; omega)]; exact (IntWalk.i64_left _).symm.trans (pos_num U _ HU.out (by omega))) (by rw [HN.out, if_pos (by have := HU.out; omega)]; rfl), hb⟩)
          | (go_ret2
             exact ⟨ret_whole (by rw [HN.out, if_neg (by have := HU.out; omega)]; rfl) (by rw [HN.out, if_neg (by have := HU.out; omega)]; rfl), hb⟩)
  · clear c3
    go_enter Tryz.func116, Tryz.ntmps116
    go_wp2
    all_goals try (exfalso; simp at *; omega)
    go_loopw [6, 7] (fun u i wr => ∃ k : Nat, k ≤ D.size ∧ i = .int .i64 k ∧ u = .int .u64 (Pk.dv 0 (D.data.toList.take k)) ∧ (D.data.toList.take k).all Pk.dgt = true ∧ Below w.heap.size w wr) (fun _ i _ => D.size - (intOf i).toNat)
    case atStart => exact ⟨0, Nat.zero_le _, rfl, rfl, rfl, Below.refl _ _⟩
    case round =>
      obtain ⟨k, hk, rfl, rfl, ha, hb⟩ := hrel
      by_cases hlt : k < D.size
      · have hx := byte_getD D k hlt
        by_cases hc : (48 : Int) ≤ D[k].toNat ∧ (D[k].toNat : Int) ≤ 57
        · have hdg : Pk.dgt (D.data.toList.getD k 0) = true := by rw [hx, Pk.dgt_iff]; omega
          have HA := Kept.mk (all_take D.data.toList k (by rw [HL.out]; exact hlt) ha hdg)
          have HU := Kept.mk (dv_small18 _ ha (by rw [List.length_take]; omega))
          have HS : Kept (Pk.dv 0 (D.data.toList.take (k + 1)) = 10 * Pk.dv 0 (D.data.toList.take k) + D[k].toNat % 48) := ⟨by rw [take_snoc D.data.toList k (by rw [HL.out]; exact hlt), Pk.dv_snoc, hx]⟩
          clear ha hdg hx HF HT
          generalize Pk.dv 0 (D.data.toList.take k) = U at HU HS
          obtain ⟨hc0, hc1⟩ := hc
          go_wp2
          go_roundw
          case rel => exact ⟨k + 1, by omega, by go_num, congrArg _ ((step_num U _ HU.out (by omega) (by omega)).trans (by rw [HS.out])), HA.out, hb⟩
          case measure => simp [intOf]; omega
        · have HN := Kept.mk (HF.out k hlt (by
            rw [hx]
            cases hq : Pk.dgt D[k] with
            | false => rfl
            | true => rw [Pk.dgt_iff] at hq; exfalso; apply hc; omega))
          clear ha hx HF HT
          generalize Pk.dv 0 (D.data.toList.take k) = U
          go_wp2
          all_goals first
            | (exfalso; simp at *; omega)
            | (go_ret2; exact ⟨ret_whole (by rw [HN.out]; rfl) (by rw [HN.out]; rfl), hb⟩)
      · obtain rfl : k = D.size := by omega
        rw [List.take_of_length_le (by rw [HL.out]; exact Nat.le_refl _)] at ha ⊢
        have HN := Kept.mk (HT.out ha)
        clear ha HF HT
        generalize Pk.dv 0 D.data.toList = U at HN
        obtain ⟨u, hu⟩ : ∃ u : Int, (U : Int) = u := ⟨_, rfl⟩
        rw [hu]
        have HU := Kept.mk hu
        clear hu
        go_wp2
        all_goals first
          | (go_ret2
             exact ⟨ret_whole (by rw [HN.out, if_pos (by have := HU.out; omega)]; exact (IntWalk.i64_left _).symm.trans (pos_num U _ HU.out (by omega))) (by rw [HN.out, if_pos (by have := HU.out; omega)]; rfl), hb⟩)
          | (go_ret2
             exact ⟨ret_whole (by rw [HN.out, if_neg (by have := HU.out; omega)]; rfl) (by rw [HN.out, if_neg (by have := HU.out; omega)]; rfl), hb⟩)

theorem head_at (s : ByteArray) (h : 0 < s.size) : s.data.toList.head? = some s[0] := by
  rw [← byte_getD s 0 h, List.getD, ← List.head?_eq_getElem?]
  cases hq : s.data.toList.head? with
  | none =>
    rw [List.head?_eq_none_iff] at hq
    have : s.data.toList.length = s.size := by rw [Array.length_toList]; rfl
    rw [hq] at this
    simp at this
    omega
  | some x => rfl
theorem tail_extract (s : ByteArray) : (s.extract 1 s.size).data.toList = s.data.toList.tail := by
  rw [ByteArray.data_extract, Array.toList_extract, List.extract_eq_take_drop, ← List.drop_one]
  have : s.data.toList.length = s.size := by rw [Array.length_toList]; rfl
  rw [List.take_of_length_le (by rw [List.length_drop]; omega)]
theorem refWhole_any (s : ByteArray) (w : World) (hs : s.size ≤ 281474976710656) :
    Calls Tryz.prog 116 #[.string s] w fun e w' => e = .returned (.tuple #[.int .i64 (wholeN s.data.toList), .bool (wholeB s.data.toList)]) ∧ Below w.heap.size w w' := by
  unfold wholeN wholeB
  rw [Pk.whole_ref]
  unfold Pk.refL
  by_cases h : 0 < s.size ∧ ∃ h : 0 < s.size, (s[0].toNat : Int) = 45
  · obtain ⟨h0, _, h45⟩ := h
    rw [if_pos (by rw [head_at s h0, show s[0] = 45 from UInt8.toNat_inj.1 (by have : (45 : UInt8).toNat = 45 := rfl; omega)])]
    have e := tail_extract s
    rw [← e]
    exact refWhole_neg s _ w hs h0 h45 rfl
  · have h45 : ∀ h : 0 < s.size, ¬ ((s[0].toNat : Int) = 45) := fun h0 h1 => h ⟨h0, h0, h1⟩
    rw [if_neg]
    · exact refWhole_pos s w hs h45
    · intro e
      rcases Nat.eq_zero_or_pos s.size with h0 | h0
      · have : s.data.toList.length = s.size := by rw [Array.length_toList]; rfl
        rw [List.eq_nil_of_length_eq_zero (this.trans h0)] at e
        cases e
      · rw [head_at s h0] at e
        injection e with e
        exact h45 h0 (by rw [e]; rfl)
end Go.Proofs.YtakccaldcolbmaaGreatDoor.Wk
