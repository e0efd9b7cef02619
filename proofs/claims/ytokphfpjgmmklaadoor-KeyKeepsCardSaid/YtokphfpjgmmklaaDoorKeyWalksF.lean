/- The walks over GetInt. -/
import Derived.Test.YtokphfpjgmmklaaDoorKeyWalksE
namespace Go.Proofs.YtokphfpjgmmklaaDoor.Wk
open Go Go.RowKit Go.Proofs.YtokphfpjgmmklaaDoor.Kb

theorem or_step (U x : Nat) (hU : U < 72057594037927936) (hx : x < 256) : bits BinOp.or IntKind.u64 (IntKind.u64.wrap ((U : Int) * 256)) (x : Int) = ((256 * U + x : Nat) : Int) := by
  have e : IntKind.u64.wrap ((U : Int) * 256) = ((256 * U : Nat) : Int) := by rw [IntKind.wrap_u64]; omega
  rw [e]
  refine (u64_or_nat (256 * U) x (by omega) (by omega)).trans ?_
  have h : 2 ^ 8 * U + x = 2 ^ 8 * U ||| x := Nat.two_pow_add_eq_or_of_lt (by omega) U
  have e2 : (2 : Nat) ^ 8 = 256 := by decide
  rw [e2] at h
  rw [h]
theorem add_step (U x : Nat) (hU : U < 72057594037927936) (hx : x < 256) : IntKind.u64.wrap (IntKind.u64.wrap (256 * (U : Int)) + (x : Int)) = ((256 * U + x : Nat) : Int) := by
  rw [IntKind.wrap_u64, IntKind.wrap_u64]
  omega
theorem xor_end (U : Nat) (hU : U < 18446744073709551616) : IntKind.i64.wrap (bits BinOp.xor IntKind.u64 (U : Int) 9223372036854775808) = (U : Int) - 9223372036854775808 := by
  have h := u64_xor_nat U 9223372036854775808 hU (by omega)
  have h2 : bits BinOp.xor IntKind.u64 (U : Int) 9223372036854775808 = ((U ^^^ 9223372036854775808 : Nat) : Int) := h
  rw [h2, xor_top U hU, IntKind.wrap_i64]
  omega
theorem sub_end (U : Nat) (hU : U < 18446744073709551616) : IntKind.i64.wrap (IntKind.u64.wrap ((U : Int) - 9223372036854775808)) = (U : Int) - 9223372036854775808 := by
  rw [IntKind.wrap_u64, IntKind.wrap_i64]
  omega
theorem ret_int3 {a b c d : Int} {x : Bool} (h : a = c) (h' : b = d) : Ending.returned (.tuple #[.int .i64 a, .int .i64 b, .bool x]) = .returned (.tuple #[.int .i64 c, .int .i64 d, .bool x]) := by rw [h, h']
/-- what GetInt hands back, its third result apart -/
def getI (l : List UInt8) : Int × Int := if 8 ≤ l.length then (Pk.getInt l, 8) else (0, 0)
theorem be8_snoc : ∀ (l : List UInt8) (acc : Nat) (c : UInt8), Pk.be8 acc (l ++ [c]) = 256 * Pk.be8 acc l + c.toNat
  | [], acc, c => rfl
  | a :: l, acc, c => by simp only [List.cons_append, Pk.be8, be8_snoc l]
theorem be8_lt : ∀ (l : List UInt8) (acc : Nat), Pk.be8 acc l < (acc + 1) * 256 ^ l.length
  | [], acc => by simp [Pk.be8]
  | a :: l, acc => by
    have h := be8_lt l (256 * acc + a.toNat)
    have ha := a.toNat_lt
    simp only [Pk.be8, List.length_cons, Nat.pow_succ]
    have e : (256 * acc + a.toNat + 1) * 256 ^ l.length ≤ (256 * (acc + 1)) * 256 ^ l.length := Nat.mul_le_mul_right _ (by omega)
    have e2 : (256 * (acc + 1)) * 256 ^ l.length = (acc + 1) * (256 ^ l.length * 256) := by
      rw [Nat.mul_comm 256 (acc + 1), Nat.mul_assoc, Nat.mul_comm 256]
    omega
theorem be8_top (l : List UInt8) : Pk.be8 0 (l.take 8) < 18446744073709551616 := by
  have h1 := be8_lt (l.take 8) 0
  have h2 : 256 ^ (l.take 8).length ≤ 256 ^ 8 := Nat.pow_le_pow_right (by omega) (by rw [List.length_take]; omega)
  have h3 : (256 : Nat) ^ 8 = 18446744073709551616 := by decide
  omega
theorem be_step (l : List UInt8) (k : Nat) (h : k < l.length) : Pk.be8 0 (l.take (k + 1)) = 256 * Pk.be8 0 (l.take k) + (l.getD k 0).toNat := by
  have e : l.take (k + 1) = l.take k ++ [l.getD k 0] := by
    rw [List.take_succ_eq_append_getElem h]
    simp [List.getD, List.getElem?_eq_getElem h]
  rw [e, be8_snoc]
theorem be_lt (l : List UInt8) (k : Nat) (h : k < 8) : Pk.be8 0 (l.take k) < 72057594037927936 := by
  have h1 := be8_lt (l.take k) 0
  have h2 : 256 ^ (l.take k).length ≤ 256 ^ 7 := Nat.pow_le_pow_right (by omega) (by rw [List.length_take]; omega)
  have h3 : (256 : Nat) ^ 7 = 72057594037927936 := by decide
  omega
set_option maxRecDepth 100000 in
set_option maxHeartbeats 2000000 in
theorem getInt_any (A : Option Addr) (l : List UInt8) (c : Nat) (w : World) (hr : Rd w A l) (hl : l.length ≤ 140737488355328) :
    Calls Tryd.prog 11 #[.slice A l.length c] w fun e w' => e = .returned (.tuple #[.int .i64 (getI l).1, .int .i64 (getI l).2, .bool (decide (8 ≤ l.length))]) ∧ Below w.heap.size w w' := by
  by_cases h8 : 8 ≤ l.length
  · have HG : Kept (getI l = (Pk.getInt l, 8)) := ⟨if_pos h8⟩
    have HR := Lib.hid hr
    rw [decide_eq_true h8]
    clear hr
    go_enter Tryd.func11, Tryd.ntmps11
    go_wp2
    go_loopw [5, 10] (fun u i wr => ∃ k : Nat, k ≤ 8 ∧ i = .int .i64 k ∧ u = .int .u64 (Pk.be8 0 (l.take k)) ∧ Below w.heap.size w wr) (fun _ i _ => 8 - (intOf i).toNat)
    case atStart => exact ⟨0, by omega, rfl, rfl, Below.refl _ _⟩
    case round =>
      obtain ⟨k, hk, rfl, rfl, hb⟩ := hrel
      by_cases hlt : k < 8
      · obtain ⟨b, off, rfl, hc⟩ := (HR.out.below hb).at_ (k := k) (by omega)
        have hs := be_step l k (by omega)
        have hu := be_lt l k (by omega)
        have HS := Kept.mk hs
        clear hs
        generalize Pk.be8 0 (l.take k) = U at hu HS
        generalize l.getD k 0 = x at hc HS
        have hx := x.toNat_lt
        have i0 : (0 : Int) ≤ (k : Int) := by omega
        have i1 : (k : Int) < (l.length : Int) := by omega
        have u0 : (0 : Int) ≤ (U : Int) := by omega
        have x1 : (x.toNat : Int) < 256 := by omega
        have HU := Kept.mk hu
        have HX := Kept.mk hx
        clear hu hx
        go_wp2
        go_roundw
        case rel => exact ⟨k + 1, by omega, by go_num, by rw [HS.out, or_step U x.toNat HU.out HX.out], hb⟩
        case measure => simp [intOf]; omega
      · obtain rfl : k = 8 := by omega
        have hu := be8_top l
        have HU := Kept.mk hu
        clear hu
        unfold Pk.getInt at HG
        generalize Pk.be8 0 (l.take 8) = U at HU HG
        go_wp2
        go_ret3
        exact ⟨ret_int3 (by rw [HG.out]; exact (IntWalk.i64_left _).symm.trans (xor_end U HU.out)) (by rw [HG.out]), hb⟩
  · have HG : Kept (getI l = (0, 0)) := ⟨if_neg h8⟩
    rw [decide_eq_false h8]
    clear hr
    go_enter Tryd.func11, Tryd.ntmps11
    go_wp2
    go_ret3
    exact ⟨ret_int3 (by rw [HG.out]) (by rw [HG.out]), Below.refl _ _⟩
set_option maxRecDepth 100000 in
set_option maxHeartbeats 2000000 in
theorem refGetInt_any (A : Option Addr) (l : List UInt8) (c : Nat) (w : World) (hr : Rd w A l) (hl : l.length ≤ 140737488355328) :
    Calls Tryd.prog 12 #[.slice A l.length c] w fun e w' => e = .returned (.tuple #[.int .i64 (getI l).1, .int .i64 (getI l).2, .bool (decide (8 ≤ l.length))]) ∧ Below w.heap.size w w' := by
  by_cases h8 : 8 ≤ l.length
  · have HG : Kept (getI l = (Pk.getInt l, 8)) := ⟨if_pos h8⟩
    have HR := Lib.hid hr
    rw [decide_eq_true h8]
    clear hr
    go_enter Tryd.func12, Tryd.ntmps12
    go_wp2
    go_loopw [5, 6] (fun u i wr => ∃ k : Nat, k ≤ 8 ∧ i = .int .i64 k ∧ u = .int .u64 (Pk.be8 0 (l.take k)) ∧ Below w.heap.size w wr) (fun _ i _ => 8 - (intOf i).toNat)
    case atStart => exact ⟨0, by omega, rfl, rfl, Below.refl _ _⟩
    case round =>
      obtain ⟨k, hk, rfl, rfl, hb⟩ := hrel
      by_cases hlt : k < 8
      · obtain ⟨b, off, rfl, hc⟩ := (HR.out.below hb).at_ (k := k) (by omega)
        have hs := be_step l k (by omega)
        have hu := be_lt l k (by omega)
        have HS := Kept.mk hs
        clear hs
        generalize Pk.be8 0 (l.take k) = U at hu HS
        generalize l.getD k 0 = x at hc HS
        have hx := x.toNat_lt
        have i0 : (0 : Int) ≤ (k : Int) := by omega
        have i1 : (k : Int) < (l.length : Int) := by omega
        have u0 : (0 : Int) ≤ (U : Int) := by omega
        have x1 : (x.toNat : Int) < 256 := by omega
        have HU := Kept.mk hu
        have HX := Kept.mk hx
        clear hu hx
        go_wp2
        go_roundw
        case rel => exact ⟨k + 1, by omega, by go_num, by rw [HS.out, add_step U x.toNat HU.out HX.out], hb⟩
        case measure => simp [intOf]; omega
      · obtain rfl : k = 8 := by omega
        have hu := be8_top l
        have HU := Kept.mk hu
        clear hu
        unfold Pk.getInt at HG
        generalize Pk.be8 0 (l.take 8) = U at HU HG
        go_wp2
        go_ret3
        exact ⟨ret_int3 (by rw [HG.out]; exact (IntWalk.i64_left _).symm.trans (sub_end U HU.out)) (by rw [HG.out]), hb⟩
  · have HG : Kept (getI l = (0, 0)) := ⟨if_neg h8⟩
    rw [decide_eq_false h8]
    clear hr
    go_enter Tryd.func12, Tryd.ntmps12
    go_wp2
    go_ret3
    exact ⟨ret_int3 (by rw [HG.out]) (by rw [HG.out]), Below.refl _ _⟩
end Go.Proofs.YtokphfpjgmmklaaDoor.Wk
