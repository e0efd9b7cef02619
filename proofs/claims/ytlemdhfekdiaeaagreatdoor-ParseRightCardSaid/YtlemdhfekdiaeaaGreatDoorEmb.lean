/- A strings.Builder that lies within a struct: copyCheck, WriteString, String, over a block whose cells are known. -/
import Derived.Test.YtlemdhfekdiaeaaGreatDoorFlatKit
import Derived.Test.YtlemdhfekdiaeaaGreatDoorKitBytes
import Derived.Shelf.Strings.BuilderK
import Derived.Lib.AppendStr
import Derived.Lib.SmallJoins
import Derived.Lib.OthersKept
import Derived.OwnWalk
import Derived.Laws.Externs
namespace Go.Proofs.YtlemdhfekdiaeaaGreatDoor.Emk
open Go Go.RowKit Go.Proofs.YtlemdhfekdiaeaaGreatDoor.Kb

theorem set_first (pre post : List Value) (p v x : Value) : (pre ++ p :: v :: post).toArray.setIfInBounds pre.length x = (pre ++ x :: v :: post).toArray := by
  apply Array.ext'
  simp
theorem set_second (pre post : List Value) (p v x : Value) : (pre ++ p :: v :: post).toArray.setIfInBounds (pre.length + 1) x = (pre ++ p :: x :: post).toArray := by
  apply Array.ext'
  simp
/-- the builder at place pre.length of block b holds these bytes, in a row of its own from B on; p: whom it knows -/
def At (T : TypeId) (pre post : List Value) (B b : Nat) (p : Value) (acc : List UInt8) (w : World) : Prop :=
  ∃ v, w.heap[b]? = some (.cells (pre ++ p :: v :: post).toArray T (0, 0)) ∧ w.ownsRow B 5 1 v acc.length (Lib.byteCells acc) ∧ v.ownBlock ≠ some b
def Is (T : TypeId) (pre post : List Value) (B b : Nat) (acc : List UInt8) (w : World) : Prop := At T pre post B b (.pointer none) acc w ∨ At T pre post B b (.pointer (some ⟨b, pre.length, none⟩)) acc w
section
variable {T : TypeId} {pre post : List Value} {B b : Nat} {p : Value} {acc : List UInt8} {w w' : World}
theorem At.lt (h : At T pre post B b p acc w) : b < w.heap.size := by
  obtain ⟨v, hb, _⟩ := h
  exact (Array.getElem?_eq_some_iff.1 hb).1
theorem Is.lt (h : Is T pre post B b acc w) : b < w.heap.size := h.elim At.lt At.lt
theorem At.below (h : At T pre post B b p acc w) (hb : Below w.heap.size w w') : At T pre post B b p acc w' := by
  have hl := h.lt
  obtain ⟨v, h1, h2, h3⟩ := h
  refine ⟨v, (hb.block b hl).trans h1, ?_, h3⟩
  exact h2.kept (row := none) ⟨hb.os, hb.tape, hb.output, hb.size, fun j hj _ => hb.block j hj⟩ (by cases hv : v.ownBlock <;> simp)
theorem Is.below (h : Is T pre post B b acc w) (hb : Below w.heap.size w w') : Is T pre post B b acc w' := h.imp (·.below hb) (·.below hb)
theorem Is.any (h : Is T pre post B b acc w) : ∃ p, (p = .pointer none ∨ p = .pointer (some ⟨b, pre.length, none⟩)) ∧ At T pre post B b p acc w := by
  rcases h with h | h
  · exact ⟨_, .inl rfl, h⟩
  · exact ⟨_, .inr rfl, h⟩
theorem At.cell0 (h : At T pre post B b p acc w) : w.cell? ⟨b, pre.length, none⟩ = some p := by
  obtain ⟨v, h1, _⟩ := h
  rw [cell_of_row w b _ _ _ _ h1]
  simp
theorem At.shape (h : At T pre post B b p acc w) : w.shape? b = some (T, pre.length + 2 + post.length) := by
  obtain ⟨v, h1, _⟩ := h
  simp only [World.shape?, h1]
  simp
  omega
end
theorem infoB : (Tryz.prog.info? 43).map (·.size) = some 2 := by kernel_rfl
theorem infoU : (Tryz.prog.info? 5).map (fun i => (i.zero, i.size, i.bytes)) = some (some (.int .u8 0), 1, 1) := by kernel_rfl
set_option maxRecDepth 100000 in
theorem check_new {T : TypeId} {n b o : Nat} {w : World} (h0 : w.cell? ⟨b, o, none⟩ = some (.pointer none)) (hsh : w.shape? b = some (T, n)) (ho : o < n) (hfz : w.frozen? ⟨b, o, none⟩ = false) (hlies : liesAt Tryz.prog Tryz.prog.depth T (n / Tryz.prog.cellsOf T) o 43 1 = true) :
    Calls Tryz.prog 65 #[.pointer (some ⟨b, o, none⟩)] w fun e w' => e = .returned (.tuple #[]) ∧ w' = w.setCell ⟨b, o, none⟩ (.pointer (some ⟨b, o, none⟩)) := by
  obtain ⟨j, hj, hjs⟩ := Option.map_eq_some_iff.1 infoB
  go_enter Tryz.func65, Tryz.ntmps65
  go_wp2
  rw [Lib.run_to_unsafe w ⟨b, o, none⟩ Tryz.underlying40 Tryz.underlying96 hj (by rw [hjs]; decide) hsh ho]
  simp only [Result.andThen]
  rw [Oper.upon_value]
  go_wp2
  rw [run_callFunc_extern Tryz.func99 (by kernel_rfl) (by kernel_rfl) (by kernel_rfl) (e := Extern.AbiNoEscape.same) (by kernel_rfl)]
  rw [Lib.run_noEscape]
  simp only [Result.andThen]
  rw [Oper.upon_value]
  go_wp2
  rw [Lib.run_from_unsafe w ⟨b, o, none⟩ Tryz.underlying96 Tryz.underlying40 hj hsh hlies]
  simp only [Result.andThen]
  rw [Oper.upon_value]
  go_wp2
  go_end0
  exact ⟨rfl, rfl⟩
set_option maxRecDepth 100000 in
theorem check_used {b o : Nat} {w : World} (h0 : w.cell? ⟨b, o, none⟩ = some (.pointer (some ⟨b, o, none⟩))) :
    Calls Tryz.prog 65 #[.pointer (some ⟨b, o, none⟩)] w fun e w' => e = .returned (.tuple #[]) ∧ w' = w := by
  obtain ⟨j, hj, _⟩ := Option.map_eq_some_iff.1 infoB
  go_enter Tryz.func65, Tryz.ntmps65
  go_wp2
  rw [Lib.run_neq_ptr_same w _ Tryz.underlying40 hj]
  go_wp2
  go_end0
  exact ⟨rfl, rfl⟩
theorem check_any {T : TypeId} {pre post : List Value} {B b : Nat} {acc : List UInt8} {w : World} (hB : B ≤ b) (h : Is T pre post B b acc w) (hlies : liesAt Tryz.prog Tryz.prog.depth T ((pre.length + 2 + post.length) / Tryz.prog.cellsOf T) pre.length 43 1 = true) :
    Calls Tryz.prog 65 #[.pointer (some ⟨b, pre.length, none⟩)] w fun e w' => e = .returned (.tuple #[]) ∧ At T pre post B b (.pointer (some ⟨b, pre.length, none⟩)) acc w' ∧ Below B w w' ∧ Lib.OthersKept 5 (some b) w w' := by
  rcases h with h | h
  · have h0 := h.cell0
    have hs := h.shape
    obtain ⟨v, h1, h2, h3⟩ := h
    refine (check_new h0 hs (by omega) (Joins.unfrozen_of_block h1 _) hlies).mono ?_
    rintro e w' ⟨rfl, rfl⟩
    refine ⟨rfl, ⟨v, ?_, ?_, h3⟩, (Below.refl B w).setCell (p := ⟨b, pre.length, none⟩) hB _, (Lib.OthersKept.refl _ _ w).setCell ⟨b, pre.length, none⟩ rfl _⟩
    · rw [Joins.block_setCell h1, set_first]
    · exact Flt.own_other h2 h3
  · refine (check_used h.cell0).mono ?_
    rintro e w' ⟨rfl, rfl⟩
    exact ⟨rfl, h, Below.refl _ _, Lib.OthersKept.refl _ _ _⟩
theorem put_second {T : TypeId} {pre post : List Value} {B b : Nat} {p v v' : Value} {acc : List UInt8} {w : World} (h : w.heap[b]? = some (.cells (pre ++ p :: v :: post).toArray T (0, 0))) (ho : w.ownsRow B 5 1 v' acc.length (Lib.byteCells acc)) (hne : v'.ownBlock ≠ some b) :
    At T pre post B b p acc (w.setCell ⟨b, pre.length + 1, none⟩ v') := ⟨v', by rw [Joins.block_setCell h, set_second], Flt.own_other ho hne, hne⟩
theorem own_block_ne {w : World} {B b n : Nat} {T : TypeId} {cs : Array Value} {v : Value} {xs : List Value} (hb : w.heap[b]? = some (.cells cs T (0, 0))) (hT : T ≠ 5) (h : w.ownsRow B 5 1 v n xs) : v.ownBlock ≠ some b := by
  rcases h.2 with ⟨rfl, _⟩ | ⟨g, cap, cur, rfl, _, hg, _⟩
  · simp [Value.ownBlock]
  · intro e
    have e : g = b := by simpa [Value.ownBlock] using e
    subst e
    rw [hb] at hg
    injection hg with e
    injection e with e1 e2 e3
    exact hT e2
set_option maxRecDepth 100000 in
set_option maxHeartbeats 2000000 in
/-- WriteString on a builder within a struct -/
theorem write_any {T : TypeId} {pre post : List Value} {B b : Nat} {acc : List UInt8} {w : World} (s : ByteArray) (hT : T ≠ 5) (hB : B ≤ b) (h : Is T pre post B b acc w) (hlies : liesAt Tryz.prog Tryz.prog.depth T ((pre.length + 2 + post.length) / Tryz.prog.cellsOf T) pre.length 43 1 = true) (hl : acc.length + s.size ≤ 1000000000000) :
    Calls Tryz.prog 29 #[.pointer (some ⟨b, pre.length, none⟩), .string s] w fun e w' => e = .returned (.tuple #[.int .i64 s.size, .nilIface]) ∧ Is T pre post B b (acc ++ s.data.toList) w' ∧ Below B w w' ∧ Lib.OthersKept 5 (some b) w w' := by
  obtain ⟨i0, hi, hz0, hz1, hz2⟩ := info_parts infoU
  have hlt := h.lt
  have CC := Kept.mk (check_any hB h hlies)
  clear h hlies
  go_enter Tryz.func29, Tryz.ntmps29
  go_wp2_with (go_at_call 65; refine CC.out.mono ?_)
  rintro e w1 ⟨rfl, ⟨v, hbk, hown, hne⟩, hb1, hk1⟩
  have HK1 := Kept.mk hk1
  have c1 : w1.cell? ⟨b, pre.length + 1, none⟩ = some v := by rw [cell_of_row w1 b _ _ _ _ hbk]; simp
  have HB1 := Kept.mk hb1
  have HBK := Kept.mk hbk
  have HOWN := Kept.mk hown
  have hlt1 : b < w1.heap.size := (Array.getElem?_eq_some_iff.1 hbk).1
  have hz1' : B ≤ w1.heap.size := by omega
  clear hb1 hbk hown hk1
  go_wp2_with (at_builtin; refine Lib.wpList_append_own_string _ rfl (.tmp 12) (.tmp 13) 41 9 rfl B 5 i0 Tryz.underlying41 Tryz.underlying9 hi hz0 hz1 hz2 v acc.length (Lib.byteCells acc) (by rfl) HOWN.out s (by rfl) (by unfold maxLen; omega) (by omega) hz1' ?_; intro v2 w2 hown2 hgrow2 _; obtain ⟨A2, e2, rfl, _⟩ := Flt.own_slice hown2; have hb2 := (hgrow2.block b hlt1 (fun e => hne e.symm)).trans HBK.out; have hne2 := own_block_ne hb2 hT hown2; have f2 : w2.frozen? ⟨b, pre.length + 1, none⟩ = false := Joins.unfrozen_of_block hb2 _; have c2 : w2.cell? ⟨b, pre.length + 1, none⟩ = some v := (by rw [cell_of_row w2 b _ _ _ _ hb2]; simp); have B2 := Kept.mk (Below.grown HB1.out hgrow2 hz1' (fun k hk => (HOWN.out.lt k hk).1)); have H2 := Kept.mk hb2; have K2 := Kept.mk (HK1.out.grown hgrow2 (Lib.ownsRowF_kind (World.ownsRowF_of HOWN.out))); have O2 := Kept.mk hown2; clear hb2 hown2 hgrow2)
  go_ret2
  have hO : w2.ownsRow B 5 1 (.slice A2 (acc.length + s.size) e2) (acc ++ s.data.toList).length (Lib.byteCells (acc ++ s.data.toList)) := by
    have h := O2.out
    rw [Lib.byteCells_append, List.length_append]
    exact h
  exact ⟨rfl, .inr (put_second H2.out hO hne2), B2.out.setCell (p := ⟨b, pre.length + 1, none⟩) hB _, K2.out.setCell ⟨b, pre.length + 1, none⟩ rfl _⟩
set_option maxRecDepth 100000 in
set_option maxHeartbeats 2000000 in
/-- WriteByte on a builder within a struct -/
theorem byte_any {T : TypeId} {pre post : List Value} {B b : Nat} {acc : List UInt8} {w : World} (c : UInt8) (hT : T ≠ 5) (hB : B ≤ b) (h : Is T pre post B b acc w) (hlies : liesAt Tryz.prog Tryz.prog.depth T ((pre.length + 2 + post.length) / Tryz.prog.cellsOf T) pre.length 43 1 = true) (hl : acc.length ≤ 1000000000000) :
    Calls Tryz.prog 97 #[.pointer (some ⟨b, pre.length, none⟩), .int .u8 (c.toNat : Int)] w fun e w' => e = .returned .nilIface ∧ Is T pre post B b (acc ++ [c]) w' ∧ Below B w w' ∧ Lib.OthersKept 5 (some b) w w' := by
  obtain ⟨i0, hi, hz0, hz1, hz2⟩ := info_parts infoU
  have hlt := h.lt
  have CC := Kept.mk (check_any hB h hlies)
  clear h hlies
  go_enter Tryz.func97, Tryz.ntmps97
  go_wp2_with (go_at_call 65; refine CC.out.mono ?_)
  rintro e w1 ⟨rfl, ⟨v, hbk, hown, hne⟩, hb1, hk1⟩
  have HK1 := Kept.mk hk1
  have c1 : w1.cell? ⟨b, pre.length + 1, none⟩ = some v := by rw [cell_of_row w1 b _ _ _ _ hbk]; simp
  have HB1 := Kept.mk hb1
  have HBK := Kept.mk hbk
  have HOWN := Kept.mk hown
  have hlt1 : b < w1.heap.size := (Array.getElem?_eq_some_iff.1 hbk).1
  have hz1' : B ≤ w1.heap.size := by omega
  clear hb1 hbk hown hk1
  go_wp2_with (at_builtin; refine wpList_append_own _ rfl (.tmp 11) (.tmp 13) 41 rfl B 5 i0 (.int .u8 0) 1 1 Tryz.underlying41 hi hz0 hz1 hz2 rfl (by decide) v acc.length (Lib.byteCells acc) (by rfl) (HOWN.out.alloc _) ⟨w1.heap.size, 0, none⟩ 1 1 [.int .u8 (c.toNat : Int)] (by rfl) (by rfl) (World.news_of_block (heap_alloc_new _ _)) (by intro u hu; simp at hu; subst hu; rfl) (by unfold maxLen; omega) (by omega) (by simp; omega) ?_; intro v2 w2 hown2 hgrow2 _; obtain ⟨A2, e2, rfl, _⟩ := Flt.own_slice hown2; have hb2 := (hgrow2.block b (by simp; omega) (fun e => hne e.symm)).trans ((Lib.alloc_old w1 _ b hlt1).trans HBK.out); have hne2 := own_block_ne hb2 hT hown2; have f2 : w2.frozen? ⟨b, pre.length + 1, none⟩ = false := Joins.unfrozen_of_block hb2 _; have c2 : w2.cell? ⟨b, pre.length + 1, none⟩ = some v := (by rw [cell_of_row w2 b _ _ _ _ hb2]; simp); have B2 := Kept.mk (Below.grown (HB1.out.alloc hz1' _) hgrow2 (by simp; omega) (fun k hk => (HOWN.out.lt k hk).1)); have H2 := Kept.mk hb2; have K2 := Kept.mk ((HK1.out.alloc _).grown hgrow2 (Lib.ownsRowF_kind (World.ownsRowF_of (HOWN.out.alloc _)))); have O2 := Kept.mk hown2; clear hb2 hown2 hgrow2)
  go_ret
  have hO : w2.ownsRow B 5 1 (.slice A2 (acc.length + 1) e2) (acc ++ [c]).length (Lib.byteCells (acc ++ [c])) := by
    have h := O2.out
    rw [Lib.byteCells_append, List.length_append]
    exact h
  exact ⟨rfl, .inr (put_second H2.out hO hne2), B2.out.setCell (p := ⟨b, pre.length + 1, none⟩) hB _, K2.out.setCell ⟨b, pre.length + 1, none⟩ rfl _⟩
theorem cells_u8 : Tryz.prog.cellsOf 5 = 1 := by kernel_rfl
theorem unsafe_none (W : World) (q : Option Addr) : (Builtin.unsafeString_ #[83, 3] 9 #[.pointer q, .int .i64 0]).run Tryz.prog W = .ok (.string ⟨#[]⟩) W := by
  exact Lib.run_unsafeString_none W _ _ _ q
/-- what String leaves of the block in which the builder lies -/
def Left (T : TypeId) (pre post : List Value) (b : Nat) (w : World) : Prop := ∃ p v, w.heap[b]? = some (.cells (pre ++ p :: v :: post).toArray T (0, 0))
set_option maxRecDepth 100000 in
set_option maxHeartbeats 2000000 in
/-- String on a builder within a struct -/
theorem string_any {T : TypeId} {pre post : List Value} {B b : Nat} {acc : List UInt8} {w : World} (hBw : B ≤ b) (h : Is T pre post B b acc w) :
    Calls Tryz.prog 31 #[.pointer (some ⟨b, pre.length, none⟩)] w fun e w' => e = .returned (.string ⟨acc.toArray⟩) ∧ Left T pre post b w' ∧ Below B w w' ∧ Lib.OthersKept 5 (some b) w w' := by
  have hlt := h.lt
  obtain ⟨p, _, v, hbk, hown, hne⟩ := h.any
  clear h
  have hL : Left T pre post b w := ⟨p, v, hbk⟩
  have hc1 : ∀ v', v' = v → w.drew.cell? ⟨b, pre.length + 1, none⟩ = some v' := fun v' e => by
    subst e
    have : w.drew.heap[b]? = some (.cells (pre ++ p :: v' :: post).toArray T (0, 0)) := hbk
    rw [cell_of_row w.drew b _ _ _ _ this]; simp
  have mixed : Tryz.prog.follows .mixedOrders = true := by kernel_rfl
  by_cases h0 : acc = []
  · subst h0
    have hUS := unsafe_none
    rcases hown.2 with ⟨rfl, _⟩ | ⟨g, cap, cur, rfl, hbg, hg, _, _, _, _⟩
    · have c1 := hc1 _ rfl
      have hSD : (Builtin.unsafeSliceData_ #[41] 83 #[.slice none 0 0]).run Tryz.prog w.drew = .ok (.pointer none) w.drew := rfl
      have HL := Kept.mk hL
      clear hL hc1 hown hbk
      go_enter Tryz.func31, Tryz.ntmps31
      go_wp2
      go_region_o
      all_goals (go_wp2; go_ret; exact ⟨rfl, HL.out, (Below.refl _ _).drew, (Lib.OthersKept.refl _ _ w).drew⟩)
    · by_cases hz : cap = 0
      · subst hz
        have hSD : (Builtin.unsafeSliceData_ #[41] 83 #[.slice (some ⟨g, 0, none⟩) 0 0]).run Tryz.prog w.drew = .ok (.pointer (some ⟨w.drew.heap.size, 0, none⟩)) (w.drew.alloc (.view ⟨g, 0, none⟩ 5)) :=
          Lib.run_unsafeSliceData_zero w.drew _ _ 5 Tryz.underlying83 ⟨g, 0, none⟩ 0 (5, cur.size) (by have hg' : w.drew.heap[g]? = some (.cells cur 5 (0, 0)) := hg; simp [World.shape?, hg'])
        have c1 := hc1 _ rfl
        have hb2 : (w.drew.alloc (.view ⟨g, 0, none⟩ 5)).heap[b]? = some (.cells (pre ++ p :: .slice (some ⟨g, 0, none⟩) 0 0 :: post).toArray T (0, 0)) := (Lib.alloc_old w.drew _ b hlt).trans hbk
        have c2 : (w.drew.alloc (.view ⟨g, 0, none⟩ 5)).cell? ⟨b, pre.length + 1, none⟩ = some (.slice (some ⟨g, 0, none⟩) 0 0) := by
          rw [cell_of_row _ b _ _ _ _ hb2]; simp
        have c3 : (w.alloc (.view ⟨g, 0, none⟩ 5)).drew.cell? ⟨b, pre.length + 1, none⟩ = some (.slice (some ⟨g, 0, none⟩) 0 0) := c2
        have c0 : w.cell? ⟨b, pre.length + 1, none⟩ = some (.slice (some ⟨g, 0, none⟩) 0 0) := c1
        have HL : Kept (Left T pre post b (w.drew.alloc (.view ⟨g, 0, none⟩ 5))) := ⟨⟨p, _, hb2⟩⟩
        clear hL hc1 hown hbk hb2
        go_enter Tryz.func31, Tryz.ntmps31
        go_wp2
        go_region_o
        all_goals (go_wp2; go_ret; exact ⟨rfl, HL.out, ((Below.refl _ _).drew).alloc (by show B ≤ w.heap.size; omega) _, ((Lib.OthersKept.refl _ _ w).drew).alloc _⟩)
      · have hSD : (Builtin.unsafeSliceData_ #[41] 83 #[.slice (some ⟨g, 0, none⟩) 0 cap]).run Tryz.prog w.drew = .ok (.pointer (some ⟨g, 0, none⟩)) w.drew := Lib.run_unsafeSliceData_row _ _ _ _ _ _ hz
        have c1 := hc1 _ rfl
        have HL := Kept.mk hL
        clear hL hc1 hown hbk hz
        go_enter Tryz.func31, Tryz.ntmps31
        go_wp2
        go_region_o
        all_goals (go_wp2; go_ret; exact ⟨rfl, HL.out, (Below.refl _ _).drew, (Lib.OthersKept.refl _ _ w).drew⟩)
  · have hl0 : acc.length ≠ 0 := by simpa using h0
    obtain ⟨g, cap, cur, rfl, hbg, hg, hnc, hcm, hcs, htake⟩ : ∃ g cap cur, v = .slice (some ⟨g, 0, none⟩) acc.length cap ∧ B ≤ g ∧ w.heap[g]? = some (.cells cur 5 (0, 0)) ∧ acc.length ≤ cap ∧ cap ≤ maxLen ∧ cur.size = cap * 1 ∧ cur.toList.take (acc.length * 1) = Lib.byteCells acc := by
      rcases hown.2 with ⟨_, hz⟩ | ⟨g, cap, cur, hv, r⟩
      · exact absurd hz hl0
      · exact ⟨g, cap, cur, hv, r⟩
    have c1 := hc1 _ rfl
    have hSD : (Builtin.unsafeSliceData_ #[41] 83 #[.slice (some ⟨g, 0, none⟩) acc.length cap]).run Tryz.prog w.drew = .ok (.pointer (some ⟨g, 0, none⟩)) w.drew := Lib.run_unsafeSliceData_row _ _ _ _ _ _ (by omega)
    have hUS : (Builtin.unsafeString_ #[83, 3] 9 #[.pointer (some ⟨g, 0, none⟩), .int .i64 acc.length]).run Tryz.prog w.drew = .ok (.string ⟨acc.toArray⟩) (w.drew.freeze ⟨g, 0, none⟩ acc.length) := by
      refine Lib.run_unsafeString_row w.drew 83 3 9 5 Tryz.underlying83 cells_u8 g cur.size (by have hg' : w.drew.heap[g]? = some (.cells cur 5 (0, 0)) := hg; simp [World.shape?, hg']) acc h0 (by omega) (by unfold maxLen at hcm; omega) ?_
      intro j x hx
      have := hown.cells (g := g) rfl j (.int .u8 x.toNat) (by simp [Lib.byteCells, hx])
      exact this
    have hgb : g ≠ b := fun e => hne (by rw [e]; rfl)
    have hbf : (w.drew.freeze ⟨g, 0, none⟩ acc.length).heap[b]? = w.heap[b]? := by
      unfold World.freeze
      split
      · rfl
      · simp only [Array.getElem?_modify]
        rw [if_neg hgb]
        rfl
    have HL : Kept (Left T pre post b (w.drew.freeze ⟨g, 0, none⟩ acc.length)) := ⟨⟨p, _, hbf.trans hbk⟩⟩
    have HB : Kept (Below B w (w.drew.freeze ⟨g, 0, none⟩ acc.length)) := ⟨Lib.below_freeze (Below.drew (Below.refl B w)) (p := ⟨g, 0, none⟩) hbg _⟩
    have HK : Kept (Lib.OthersKept 5 (some b) w (w.drew.freeze ⟨g, 0, none⟩ acc.length)) := ⟨((Lib.OthersKept.refl _ _ w).drew).freeze ⟨g, 0, none⟩ _ ⟨cur, _, hg⟩⟩
    clear hL hc1 hown hbk hbf hg htake
    go_enter Tryz.func31, Tryz.ntmps31
    go_wp2
    go_region_o
    all_goals (go_wp2; go_ret; exact ⟨rfl, HL.out, HB.out, HK.out⟩)
end Go.Proofs.YtlemdhfekdiaeaaGreatDoor.Emk
