/- A strings.Builder that lies within a struct: WriteRune, Len. -/
import Derived.Test.YtlemdhfekdiaeaaGreatDoorEmb
import Derived.Test.YtlemdhfekdiaeaaGreatDoorShelfParse
import Derived.Shelf.Utf8.AppendRunePlain
namespace Go.Proofs.YtlemdhfekdiaeaaGreatDoor.Emk
open Go Go.RowKit Go.Proofs.YtlemdhfekdiaeaaGreatDoor.Kb

set_option maxRecDepth 100000 in
set_option maxHeartbeats 2000000 in
/-- WriteRune on a builder within a struct -/
theorem rune_any {T : TypeId} {pre post : List Value} {B b : Nat} {acc : List UInt8} {w : World} (r : Int) (hr0 : -2147483648 ≤ r) (hr1 : r ≤ 2147483647) (hT : T ≠ 5) (hB : B ≤ b) (h : Is T pre post B b acc w) (hlies : liesAt Tryz.prog Tryz.prog.depth T ((pre.length + 2 + post.length) / Tryz.prog.cellsOf T) pre.length 43 1 = true) (hl : acc.length ≤ 1000000000000) :
    Calls Tryz.prog 95 #[.pointer (some ⟨b, pre.length, none⟩), .int .i32 r] w fun e w' => (∃ n : Int, e = .returned (.tuple #[.int .i64 n, .nilIface])) ∧ Is T pre post B b (acc ++ Lib.encodeRune r) w' ∧ Below B w w' ∧ Lib.OthersKept 5 (some b) w w' := by
  have hlt := h.lt
  have CC := Kept.mk (check_any hB h hlies)
  have hle := Lib.runeCells_le r
  have hlen := Lib.runeCells_length r
  have hcells := Lib.byteCells_encodeRune r
  generalize hN : (Lib.runeCells r).length = N at hle hlen
  have HN := Kept.mk hN
  have HC := Kept.mk hcells
  have HLN := Kept.mk hlen
  clear h hlies hN hcells hlen
  go_enter Tryz.func95, Tryz.ntmps95
  go_wp2_with (go_at_call 65; refine CC.out.mono ?_)
  rintro e w1 ⟨rfl, ⟨v, hbk, hown, hne⟩, hb1, hk1⟩
  obtain ⟨A1, c1', rfl, _⟩ := Flt.own_slice hown
  have HK1 := Kept.mk hk1
  have c1 : w1.cell? ⟨b, pre.length + 1, none⟩ = some (.slice A1 acc.length c1') := by rw [cell_of_row w1 b _ _ _ _ hbk]; simp
  have HB1 := Kept.mk hb1
  have HBK := Kept.mk hbk
  have HOWN := Kept.mk hown
  have hlt1 : b < w1.heap.size := (Array.getElem?_eq_some_iff.1 hbk).1
  have hz1' : B ≤ w1.heap.size := by omega
  have HNE := Kept.mk hne
  have i0 : (0 : Int) ≤ (acc.length : Int) := by omega
  have i1 : (acc.length : Int) ≤ 1000000000000 := by omega
  have i2 : (0 : Int) ≤ (N : Int) := by omega
  have i3 : (N : Int) ≤ 4 := by omega
  clear hb1 hbk hown hk1 hne
  go_wp2_with (go_at_call 125; refine (Any.utf8_AppendRune_plain Tryz.lays242 infoU B _ acc.length (Lib.byteCells acc) r hr0 hr1 w1 HOWN.out (by omega) hz1').mono ?_; rintro e w2 ⟨v2, rfl, hown2, o, hgrow2⟩; rw [HN.out] at hown2; obtain ⟨A2, e2, rfl, _⟩ := Flt.own_slice hown2; have hb2 := (hgrow2.block b (by simp; omega) (fun e => HNE.out e.symm)).trans ((Lib.alloc_old w1 _ b hlt1).trans HBK.out); have hne2 := own_block_ne hb2 hT hown2; have f2 : w2.frozen? ⟨b, pre.length + 1, none⟩ = false := Joins.unfrozen_of_block hb2 _; have c2 : w2.cell? ⟨b, pre.length + 1, none⟩ = some (.slice A1 acc.length c1') := (by rw [cell_of_row w2 b _ _ _ _ hb2]; simp); have B2 := Kept.mk (Below.grown (HB1.out.alloc hz1' _) hgrow2 (by simp; omega) (fun k hk => (HOWN.out.lt k hk).1)); have H2 := Kept.mk hb2; have K2 := Kept.mk ((HK1.out.alloc _).grown hgrow2 (Lib.ownsRowF_kind (World.ownsRowF_of (HOWN.out.alloc _)))); have O2 := Kept.mk hown2; clear hb2 hown2 hgrow2)
  go_ret2
  have hO : w2.ownsRow B 5 1 (.slice A2 (acc.length + N) e2) (acc ++ Lib.encodeRune r).length (Lib.byteCells (acc ++ Lib.encodeRune r)) := by
    have h := O2.out
    rw [Lib.byteCells_append, List.length_append, HC.out, ← HLN.out]
    exact h
  exact ⟨⟨_, rfl⟩, .inr (put_second H2.out hO hne2), B2.out.setCell (p := ⟨b, pre.length + 1, none⟩) hB _, K2.out.setCell ⟨b, pre.length + 1, none⟩ rfl _⟩
set_option maxRecDepth 100000 in
/-- Len of a builder within a struct -/
theorem len_any {T : TypeId} {pre post : List Value} {B b : Nat} {acc : List UInt8} {w : World} (h : Is T pre post B b acc w) :
    Calls Tryz.prog 30 #[.pointer (some ⟨b, pre.length, none⟩)] w fun e w' => e = .returned (.int .i64 acc.length) ∧ w' = w := by
  obtain ⟨p, _, v, hbk, hown, _⟩ := h.any
  obtain ⟨A1, c1', rfl, _⟩ := Flt.own_slice hown
  have c1 : w.cell? ⟨b, pre.length + 1, none⟩ = some (.slice A1 acc.length c1') := by rw [cell_of_row w b _ _ _ _ hbk]; simp
  clear h hbk hown
  go_enter Tryz.func30, Tryz.ntmps30
  go_wp2
  go_ret
  exact ⟨rfl, rfl⟩
end Go.Proofs.YtlemdhfekdiaeaaGreatDoor.Emk
