/- The walk over the program's crash (chapter 31). -/
import Derived.Test.YtakccaldcolbmaaGreatDoorLinesNum
import Derived.Test.YtakccaldcolbmaaGreatDoorLinesVal
import Derived.Laws.OwnMore
import Derived.RangeFuncBox
import Derived.Deep.AppendLies
namespace Go.Proofs.YtakccaldcolbmaaGreatDoor.Wln
open Go Go.RowKit Go.Proofs.YtakccaldcolbmaaGreatDoor.Kb

theorem crash_cons (x : List UInt8) (r : List (List UInt8)) : Pln.crashL (x :: r) = (match Wk.wholeL x, Pln.fatesL r with
    | some n, some f => some (6, [], n, f)
    | _, _ => none) := rfl
theorem fates_cons (x : List UInt8) (r : List (List UInt8)) : Pln.fatesL (x :: r) = (match Pln.fateL x, Pln.fatesL r with
    | some x, some y => some (x :: y)
    | _, _ => none) := rfl
/-- what has been read so far: if it is right, the rest decides; if not, there is none -/
def CrS (L : List (List UInt8)) (n : Int) (rest : List (List UInt8)) (G : List (Int × Int)) (z : Bool) : Prop :=
  if z = true then Pln.crashL L = (Pln.fatesL rest).map fun f => (6, [], n, G ++ f) else Pln.crashL L = none
theorem crS_start {x : List UInt8} {r : List (List UInt8)} {n : Int} {z : Bool} (h1 : z = true → Wk.wholeL x = some n) (h2 : z = false → Wk.wholeL x = none) : CrS (x :: r) n r [] z := by
  unfold CrS
  cases z with
  | true => rw [if_pos rfl, crash_cons, h1 rfl]; cases Pln.fatesL r <;> rfl
  | false => rw [if_neg (by decide), crash_cons, h2 rfl]
theorem crS_good {L : List (List UInt8)} {n : Int} {x : List UInt8} {rest : List (List UInt8)} {G : List (Int × Int)} {f : Int × Int} (h : CrS L n (x :: rest) G true) (hf : Pln.fateL x = some f) : CrS L n rest (G ++ [f]) true := by
  unfold CrS at h ⊢
  rw [if_pos rfl] at h ⊢
  rw [h, fates_cons, hf]
  cases Pln.fatesL rest with
  | none => rfl
  | some y => simp
theorem crS_bad {L : List (List UInt8)} {n : Int} {x : List UInt8} {rest : List (List UInt8)} {G G' : List (Int × Int)} {z : Bool} (h : CrS L n (x :: rest) G z) (hf : z = true → Pln.fateL x = none) : CrS L n rest G' false := by
  unfold CrS at h ⊢
  rw [if_neg (by decide)]
  cases z with
  | true => rw [if_pos rfl, fates_cons, hf rfl] at h; exact h
  | false => rw [if_neg (by decide)] at h; exact h
/-- a number read, as its two parts -/
theorem num_parts {w w' : World} {r : Option Int} {e : Ending} (h : NumIs w r e w') : Below w.heap.size w w' ∧ ∃ (n : Int) (z : Bool), e = .returned (.tuple #[.int .i64 n, .bool z]) ∧ Kept ((z = true → r = some n) ∧ (z = false → r = none)) := by
  obtain ⟨hb, h⟩ := h
  cases r with
  | some v => exact ⟨hb, v, true, h, ⟨fun _ => rfl, fun e => (by cases e)⟩⟩
  | none =>
    obtain ⟨n, h⟩ := h
    exact ⟨hb, n, false, h, ⟨fun e => (by cases e), fun _ => rfl⟩⟩
theorem fate_of {l : List UInt8} {p q : List UInt8} {i : Bool} (hc : Lib.cut l [58] = (p, q, i)) {n m : Int} {y z : Bool} (hp : (y = true → Wk.wholeL p = some n) ∧ (y = false → Wk.wholeL p = none)) (hq : (z = true → Wk.wholeL q = some m) ∧ (z = false → Wk.wholeL q = none)) :
    Pln.fateL l = if i = true ∧ y = true ∧ z = true ∧ 0 ≤ m ∧ m < 256 then some (n, m) else none := by
  rw [Pln.fate_cut, hc]
  simp only
  cases i with
  | false => rw [if_neg (by decide), if_neg (by simp)]
  | true =>
    rw [if_pos rfl]
    cases y with
    | false => rw [hp.2 rfl, if_neg (by simp)]
    | true =>
      rw [hp.1 rfl]
      cases z with
      | false => rw [hq.2 rfl, if_neg (by simp)]
      | true =>
        rw [hq.1 rfl]
        by_cases h : 0 ≤ m ∧ m < 256
        · simp only [h, and_self, if_true]
        · simp only [if_neg h]
          rw [if_neg (fun e => h ⟨e.2.2.2.1, e.2.2.2.2⟩)]
/-- the command under way in block C, the result's block at R -/
def CrB (w W : World) (C base : Nat) (n : Int) (v : Value) (k : Nat) (G : List (Int × Int)) : Prop :=
  W.heap[w.heap.size]? = some (.cells #[.int .u8 0, .string ⟨#[]⟩, .int .i64 0, .slice none 0 0] 40 (0, 0)) ∧ W.heap[C]? = some (.cells #[.int .u8 6, .string ⟨#[]⟩, .int .i64 n, v] 40 (0, 0)) ∧ W.ownsRow base 42 2 v k (fatesC G) ∧ Below w.heap.size w W
theorem CrB.below {w W W' : World} {C base k : Nat} {n : Int} {v : Value} {G : List (Int × Int)} (h : CrB w W C base n v k G) (hb : Below W.heap.size W W') : CrB w W' C base n v k G := by
  obtain ⟨h1, h2, h3, h4⟩ := h
  exact ⟨(hb.block _ (Array.getElem?_eq_some_iff.1 h1).1).trans h1, (hb.block _ (Array.getElem?_eq_some_iff.1 h2).1).trans h2, h3.kept (row := none) ⟨hb.os, hb.tape, hb.output, hb.size, fun k hk _ => hb.block k hk⟩ (Classical.em _), h4.trans (hb.mono h4.size)⟩
theorem CrB.appended {w W w5 : World} {C base k : Nat} {n : Int} {v : Value} {G : List (Int × Int)} {f : Int × Int} {tmp : Obj} {g cap : Nat} (h : CrB w W C base n v k G) (hC : w.heap.size < C) (hbase : C < base) (hsz : base ≤ W.heap.size)
    (hown : w5.ownsRow base 42 2 (.slice (some ⟨g, 0, none⟩) (k + 1) cap) (k + 1) (fatesC G ++ fateC f)) (hgrow : (W.alloc tmp).grownBy w5 v.ownBlock) :
    CrB w (w5.setCell ⟨C, 3, none⟩ (.slice (some ⟨g, 0, none⟩) (k + 1) cap)) C base n (.slice (some ⟨g, 0, none⟩) (k + 1) cap) (k + 1) (G ++ [f]) ∧ w5.cell? ⟨C, 3, none⟩ = some v ∧ w5.frozen? ⟨C, 3, none⟩ = false ∧ Below C W (w5.setCell ⟨C, 3, none⟩ (.slice (some ⟨g, 0, none⟩) (k + 1) cap)) := by
  obtain ⟨h1, h2, h3, h4⟩ := h
  have far : ∀ j, j < base → some j ≠ v.ownBlock := fun j hj e => by
    rcases h3.2 with ⟨rfl, _⟩ | ⟨g, cap, cur, rfl, hg, _⟩
    · simp [Value.ownBlock] at e
    · have : j = g := by simpa [Value.ownBlock] using e
      omega
  have keep : ∀ j, j < base → w5.heap[j]? = W.heap[j]? := fun j hj => (hgrow.block j (by simp; omega) (far j hj)).trans (Below.heap_alloc _ _ _ (by omega))
  have k2 := (keep C (by omega)).trans h2
  have hgb : some C ≠ (Value.slice (some ⟨g, 0, none⟩) (k + 1) cap).ownBlock := by
    rcases hown.2 with ⟨e, _⟩ | ⟨g', cap', cur, e, hg, _⟩
    · cases e
    · cases e
      intro e
      have : C = g := by simpa [Value.ownBlock] using e
      omega
  have hB5 : Below C W w5 := ((Below.refl C W).alloc (by omega) tmp).grown hgrow (by simp; omega) (fun j e => by have := far j; by_cases hj : j < base; exact absurd e.symm (this hj); omega)
  refine ⟨⟨(Below.heap_setCell _ _ _ _ (by show w.heap.size ≠ C; omega)).trans ((keep _ (by omega)).trans h1), by simpa using block_set k2 3 (.slice (some ⟨g, 0, none⟩) (k + 1) cap), ?_, ?_⟩, ?_, frozen_of_row _ _ _ k2, ?_⟩
  · rw [fatesC_append, show fatesC [f] = fateC f by simp [fatesC]]
    exact hown.kept ⟨rfl, rfl, rfl, (KeepsW _ _ _), fun j _ hj => Below.heap_setCell _ _ _ j (fun e => hj (by rw [e]))⟩ (.inr (fun e => hgb e.symm))
  · exact (h4.trans (hB5.mono (by omega))).setCell (p := ⟨C, 3, none⟩) (by show w.heap.size ≤ C; omega) _
  · rw [cell_of_row w5 C 3 _ _ _ k2]; rfl
  · exact hB5.setCell (p := ⟨C, 3, none⟩) (Nat.le_refl _) _
theorem crb_cell {w W : World} {C base k : Nat} {n : Int} {v : Value} {G : List (Int × Int)} (h : CrB w W C base n v k G) : W.cell? ⟨C, 3, none⟩ = some v := by
  rw [cell_of_row W C 3 _ _ _ h.2.1]
  rfl
theorem cut_len (y : List UInt8) : (Lib.cut y [58]).1.length ≤ y.length ∧ (Lib.cut y [58]).2.1.length ≤ y.length := by
  unfold Lib.cut
  split
  · exact ⟨by rw [List.length_take]; omega, by rw [List.length_drop]; omega⟩
  · exact ⟨Nat.le_refl _, Nat.zero_le _⟩
theorem num_is_none {w w' : World} {r : Option Int} {e : Ending} (h : NumIs w r e w') (hn : r = none) : Below w.heap.size w w' ∧ ∃ n, e = .returned (.tuple #[.int .i64 n, .bool false]) := by
  subst hn
  exact h
theorem num_is_some {w w' : World} {r : Option Int} {v : Int} {e : Ending} (h : NumIs w r e w') (hn : r = some v) : Below w.heap.size w w' ∧ e = .returned (.tuple #[.int .i64 v, .bool true]) := by
  subst hn
  exact h
theorem Bl.drewN (w : World) : ∀ n, Below w.heap.size w (w.drewN n)
  | 0 => Below.refl _ _
  | n + 1 => (Bl.drewN w n).drew
theorem set4 {W : World} {N : Nat} {a' b' c' d' : Value} {ty : TypeId} (a b c d : Value) (h : W.heap[N]? = some (.cells #[a', b', c', d'] ty (0, 0))) : ((((W.setCell ⟨N, 0, none⟩ a).setCell ⟨N, 1, none⟩ b).setCell ⟨N, 2, none⟩ c).setCell ⟨N, 3, none⟩ d).heap[N]? = some (.cells #[a, b, c, d] ty (0, 0)) := by
  simpa using block_set (block_set (block_set (block_set h 0 a) 1 b) 2 c) 3 d
/-- the command, stored into the result -/
theorem cr_done {w W : World} {C base k : Nat} {n : Int} {v : Value} {G : List (Int × Int)} {z : Bool} {L : List (List UInt8)} (h : CrB w W C base n v k G) (hs : CrS L n [] G z) (hG : G.length = k) (hC : w.heap.size < C) (hb : C < base) :
    CmdIs w (Pln.crashL L) (.returned (.tuple #[cmdV 6 [] n v, .bool z])) ((((W.setCell ⟨w.heap.size, 0, none⟩ (.int .u8 6)).setCell ⟨w.heap.size, 1, none⟩ (.string ⟨#[]⟩)).setCell ⟨w.heap.size, 2, none⟩ (.int .i64 n)).setCell ⟨w.heap.size, 3, none⟩ v) := by
  have hB := ((((h.2.2.2).setCell (p := ⟨w.heap.size, 0, none⟩) (Nat.le_refl _) (.int .u8 6)).setCell (p := ⟨w.heap.size, 1, none⟩) (Nat.le_refl _) (.string ⟨#[]⟩)).setCell (p := ⟨w.heap.size, 2, none⟩) (Nat.le_refl _) (.int .i64 n)).setCell (p := ⟨w.heap.size, 3, none⟩) (Nat.le_refl _) v
  obtain ⟨A, c, hv⟩ : ∃ A c, v = .slice A k c := by
    rcases h.2.2.1.2 with ⟨e, h0⟩ | ⟨g, cap, cur, e, _⟩
    · rw [h0]; exact ⟨none, 0, e⟩
    · exact ⟨_, cap, e⟩
  subst hv
  subst hG
  refine ⟨hB, ?_⟩
  unfold CrS at hs
  cases z with
  | true =>
    rw [if_pos rfl] at hs
    have : Pln.crashL L = some (6, [], n, G) := by rw [hs]; show some (6, [], n, G ++ []) = _; rw [List.append_nil]
    rw [this]
    refine ⟨A, c, rfl, own_base (base := w.heap.size + 1) (own_far (own_base h.2.2.1 (by omega)) fun g hg hlt => ?_) (by omega)⟩
    rw [Below.heap_setCell _ _ _ _ (by show g ≠ w.heap.size; omega), Below.heap_setCell _ _ _ _ (by show g ≠ w.heap.size; omega), Below.heap_setCell _ _ _ _ (by show g ≠ w.heap.size; omega), Below.heap_setCell _ _ _ _ (by show g ≠ w.heap.size; omega)]
  | false =>
    rw [if_neg (by decide)] at hs
    rw [hs]
    exact ⟨6, [], n, A, _, c, rfl⟩
set_option maxRecDepth 100000 in
set_option maxHeartbeats 8000000 in
theorem crash_any (A : Option Addr) (c : Nat) (L : List (List UInt8)) (w : World) (hE : LEnv w) (hr : RdS w A L) (hc : L.length ≤ c) (hL : L.length ≤ 65536) (hsz : ∀ x ∈ L, x.length ≤ 65536) :
    Calls Tryz.prog 69 #[.slice A L.length c] w (CmdIs w (Pln.crashL L)) := by
  cases L with
  | nil =>
    clear hr hsz hE
    go_enter Tryz.func69, Tryz.ntmps69
    go_wp2
    refine bodyPost_ret (v := .tuple #[cmdV 0 [] 0 (.slice none 0 0), .bool false]) (by simp [results, Tryz.results69, go_sem, cmdV]) rfl ⟨(Below.refl _ _).alloc (Nat.le_refl _) _, 0, [], 0, none, 0, 0, rfl⟩
  | cons x r =>
    obtain ⟨g, off, rfl, hx0⟩ := hr 0 x rfl
    rw [Nat.add_zero] at hx0
    have hgw := cell_lt hx0
    have hR := Kept.mk hr.tail
    have hlr : (x :: r).length = r.length + 1 := rfl
    rw [hlr] at hc hL ⊢
    have hxs : x.length ≤ 65536 := hsz x (by simp)
    have hrs := Kept.mk (fun y (hy : y ∈ r) => hsz y (List.mem_cons_of_mem x hy))
    have hB0 : Below w.heap.size w (w.alloc (.cells #[.int .u8 0, .string ⟨#[]⟩, .int .i64 0, .slice none 0 0] 40)) := (Below.refl _ _).alloc (Nat.le_refl _) _
    have hn0 := World.alloc_heap_new w (.cells #[.int .u8 0, .string ⟨#[]⟩, .int .i64 0, .slice none 0 0] 40)
    have cN := number_any ⟨x.toArray⟩ _ (by rw [Lib.size_mk]; omega) (hE.below hB0)
    have CN := Kept.mk cN
    have HB0 := Kept.mk (And.intro hB0 hn0)
    have HE := Kept.mk hE
    obtain ⟨i0, hi, hz0, hz1, hz2⟩ := info_parts infoF
    have hCN : Tryz.prog.underlying 29 = Tryz.prog.underlying 29 := rfl
    clear hCN
    by_cases hc1 : c = 1
    · subst hc1
      have hrn : r = [] := by cases r with | nil => rfl | cons _ _ => simp at hc
      subst hrn
      clear hc hL hR hrs hE hi hz0 hz1 hz2
      go_enter Tryz.func69, Tryz.ntmps69
      go_wp2_with (go_at_call 105; refine CN.out.mono ?_; rintro e w1 hn; obtain ⟨hb1, n, z0, rfl, HZ⟩ := num_parts hn; have HB1 := Kept.mk hb1; clear hn hb1)
      have hb1 := HB1.out
      have hsz1 := hb1.size
      have hcb : CrB w (w1.alloc (.cells #[.int .u8 6, .string ⟨#[]⟩, .int .i64 n, .slice none 0 0] 40)) w1.heap.size (w1.heap.size + 1) n (.slice none 0 0) 0 [] := ⟨(Below.heap_alloc _ _ _ (Nat.lt_of_lt_of_le (Array.getElem?_eq_some_iff.1 HB0.out.2).1 hsz1)).trans ((hb1.block _ (Array.getElem?_eq_some_iff.1 HB0.out.2).1).trans HB0.out.2), World.alloc_heap_new _ _, World.ownsRow_nil _ _ _ _, (HB0.out.1.trans (hb1.mono HB0.out.1.size)).alloc (Nat.le_trans HB0.out.1.size hsz1) _⟩
      have hcs := crS_start (r := []) HZ.out.1 HZ.out.2
      have HB := Kept.mk hcb
      have HS := Kept.mk hcs
      have HCw := Kept.mk (show w.heap.size < w1.heap.size from Nat.lt_of_lt_of_le (Array.getElem?_eq_some_iff.1 HB0.out.2).1 hsz1)
      clear hcb hcs hb1 hsz1 HB1 HB0 HZ
      generalize hC : w1.heap.size = C at HB HCw ⊢
      generalize w1.alloc (.cells #[.int .u8 6, .string ⟨#[]⟩, .int .i64 n, .slice none 0 0] 40) = W2 at HB ⊢
      clear hC
      go_loopw [5, 8, 9, 10, 11, 12, 13, 14, 15, 32] (fun ok _ _ _ _ _ _ _ _ i wx => i = .int .i64 0 ∧ ok = .bool z0 ∧ W2 = wx) (fun _ _ _ _ _ _ _ _ _ _ _ => 0)
      case atStart => exact ⟨rfl, rfl, rfl⟩
      case round =>
        obtain ⟨rfl, rfl, rfl⟩ := hrel
        have hcell := HB.out.2.1
        have e0 := cell_of_row W2 C 0 _ _ _ hcell
        have e1 := cell_of_row W2 C 1 _ _ _ hcell
        have e2 := cell_of_row W2 C 2 _ _ _ hcell
        have e3 := cell_of_row W2 C 3 _ _ _ hcell
        have hres := HB.out.1
        have d0 := cell_of_row W2 w.heap.size 0 _ _ _ hres
        have d1 := cell_of_row W2 w.heap.size 1 _ _ _ hres
        have d2 := cell_of_row W2 w.heap.size 2 _ _ _ hres
        have d3 := cell_of_row W2 w.heap.size 3 _ _ _ hres
        have f0 := fun i => frozen_of_row W2 w.heap.size i hres
        clear hcell hres
        go_wp2
        have hz4 := set4 (.int .u8 6) (.string ⟨#[]⟩) (.int .i64 n) (.slice none 0 0) HB.out.1
        have r0 := cell_of_row _ w.heap.size 0 _ _ _ hz4
        have r1 := cell_of_row _ w.heap.size 1 _ _ _ hz4
        have r2 := cell_of_row _ w.heap.size 2 _ _ _ hz4
        have r3 := cell_of_row _ w.heap.size 3 _ _ _ hz4
        refine bodyPost_ret (v := .tuple #[cmdV 6 [] n (.slice none 0 0), .bool z0]) (by simp [results, Tryz.results69, go_sem, cmdV, r0, r1, r2, r3]) rfl ?_
        exact cr_done HB.out HS.out rfl HCw.out (Nat.lt_succ_self _)
    · have l1 : (1 : Int) ≤ (r.length : Int) + 1 := by omega
      have l2 : (0 : Int) ≤ (c : Int) - 1 := by omega
      go_enter Tryz.func69, Tryz.ntmps69
      go_wp2_with (go_at_call 105; refine CN.out.mono ?_; rintro e w1 hn; obtain ⟨hb1, n, z0, rfl, HZ⟩ := num_parts hn; have HB1 := Kept.mk hb1; clear hn hb1)
      have hb1 := HB1.out
      have hsz1 := hb1.size
      have hcb : CrB w (w1.alloc (.cells #[.int .u8 6, .string ⟨#[]⟩, .int .i64 n, .slice none 0 0] 40)) w1.heap.size (w1.heap.size + 1) n (.slice none 0 0) 0 [] := ⟨(Below.heap_alloc _ _ _ (Nat.lt_of_lt_of_le (Array.getElem?_eq_some_iff.1 HB0.out.2).1 hsz1)).trans ((hb1.block _ (Array.getElem?_eq_some_iff.1 HB0.out.2).1).trans HB0.out.2), World.alloc_heap_new _ _, World.ownsRow_nil _ _ _ _, (HB0.out.1.trans (hb1.mono HB0.out.1.size)).alloc (Nat.le_trans HB0.out.1.size hsz1) _⟩
      have hcs := crS_start (r := r) HZ.out.1 HZ.out.2
      have HB := Kept.mk hcb
      have HS := Kept.mk hcs
      have HCw := Kept.mk (show w.heap.size < w1.heap.size from Nat.lt_of_lt_of_le (Array.getElem?_eq_some_iff.1 HB0.out.2).1 hsz1)
      clear hcb hcs hb1 hsz1 HB1 HB0 HZ hx0 hgw CN
      generalize hC : w1.heap.size = C at HB HCw ⊢
      generalize w1.alloc (.cells #[.int .u8 6, .string ⟨#[]⟩, .int .i64 n, .slice none 0 0] 40) = W2 at HB ⊢
      clear hC
      go_loopw [5, 8, 9, 10, 11, 12, 13, 14, 15, 32] (fun ok _ _ _ _ _ _ _ _ i wx => ∃ (k : Nat) (G : List (Int × Int)) (A2 : Option Addr) (cv : Nat) (z : Bool), i = .int .i64 k ∧ k ≤ r.length ∧ G.length = k ∧ ok = .bool z ∧ Kept (CrS (x :: r) n (r.drop k) G z) ∧ Kept (CrB w wx C (C + 1) n (.slice A2 k cv) k G)) (fun _ _ _ _ _ _ _ _ _ i _ => r.length - (intOf i).toNat)
      case atStart => exact ⟨0, [], none, 0, z0, rfl, by omega, rfl, rfl, HS, HB⟩
      case round =>
        clear HS HB
        obtain ⟨k, G, A2, cv, z, rfl, hk, hG, rfl, HS, HB⟩ := hrel
        have hCw := HCw.out
        have hGK := Kept.mk hG
        clear hG
        have k0 : (0 : Int) ≤ (k : Int) := by omega
        by_cases hlt : k < r.length
        · have k1 : (k : Int) < (r.length : Int) := by omega
          obtain ⟨y, hy⟩ : ∃ y, r[k]? = some y := ⟨_, List.getElem?_eq_getElem hlt⟩
          have hd : r.drop k = y :: r.drop (k + 1) := by
            obtain ⟨h1, h2⟩ := List.getElem?_eq_some_iff.1 hy
            rw [List.drop_eq_getElem_cons h1, h2]
          have hs1 := HS.out
          rw [hd] at hs1
          have HS1 := Kept.mk hs1
          obtain ⟨g', off', eA, hyc⟩ := (hR.out.below HB.out.2.2.2) k y hy
          cases eA
          have hys : y.length ≤ 65536 := hrs.out y (List.mem_of_getElem? hy)
          have hcl := cut_len y
          obtain ⟨m, hm⟩ := (HE.out.below HB.out.2.2.2).mx
          have cC := Any.strings_Cut Tryz.lays145 ⟨y.toArray⟩ ⟨#[58]⟩ m wr (by rw [Lib.size_mk]; omega) hm
          obtain ⟨p, q, i, hcut⟩ : ∃ p q i, Lib.cut y [58] = (p, q, i) := ⟨_, _, _, rfl⟩
          rw [hcut] at hcl
          have hps : (⟨p.toArray⟩ : ByteArray).size ≤ 281474976710656 := by rw [Lib.size_mk]; have := hcl.1; simp only at this; omega
          have hqs : (⟨q.toArray⟩ : ByteArray).size ≤ 281474976710656 := by rw [Lib.size_mk]; have := hcl.2; simp only at this; omega
          have CC : Kept (Calls Tryz.prog 106 #[.string ⟨y.toArray⟩, .string ⟨#[58]⟩] wr fun e w' => e = .returned (.tuple #[.string ⟨p.toArray⟩, .string ⟨q.toArray⟩, .bool i]) ∧ Kept (CrB w w' C (C + 1) n (.slice A2 k cv) k G)) := ⟨cC.mono (by
            rintro e w' ⟨he, nn, rfl⟩
            have hcut2 : Lib.cut (⟨y.toArray⟩ : ByteArray).data.toList (⟨#[58]⟩ : ByteArray).data.toList = (p, q, i) := hcut
            rw [hcut2] at he
            exact ⟨he, ⟨HB.out.below (Bl.drewN _ nn)⟩⟩)⟩
          have hE := HE
          have HCT := Kept.mk hcut
          clear hs1 HS hd hy hys hcl cC hm hcut HB HCw
          cases z with
          | false =>
            go_wp2_with (first
              | (go_at_call 106; refine CC.out.mono ?_; rintro e wa ⟨rfl, HBa⟩)
              | (go_at_call 105; refine (number_any _ _ (by first | exact hps | exact hqs) (hE.out.below (by first | exact HBb.out.2.2.2 | exact HBa.out.2.2.2))).mono ?_; rintro e wn hn; first | (have HBd := HBb.out; obtain ⟨hb2, n2, z2, rfl, HZ2⟩ := num_parts hn; have HBc := Kept.mk (HBd.below hb2); have C3 := crb_cell HBc.out; clear hn HBd) | (obtain ⟨hb1, n1, z1, rfl, HZ1⟩ := num_parts hn; have HBb := Kept.mk (HBa.out.below hb1); have C3 := crb_cell HBb.out; clear hn))
              | (at_builtin; refine wpList_append_own _ rfl (.tmp 71) (.tmp 76) 38 rfl (C + 1) 42 i0 (.agg #[.int .i64 0, .int .u8 0]) 2 16 Tryz.underlying38 hi hz0 hz1 hz2 rfl (by decide) _ _ _ (by rfl) (HBc.out.2.2.1.alloc _) ⟨wn.heap.size, 0, none⟩ 1 1 [.int .i64 n1, .int .u8 (IntKind.u8.wrap n2)] (by rfl) (by rfl) (World.news_of_block (heap_alloc_new _ _)) (by intro u hu; simp at hu; rcases hu with rfl | rfl <;> rfl) (by unfold maxLen; omega) (by omega) (by have := (Array.getElem?_eq_some_iff.1 HBc.out.2.1).1; simp; omega) ?_; intro v' w5 hown5 hgrow5 _; obtain ⟨g5, cap5, rfl⟩ := ownsRow_succ hown5; have hap := CrB.appended (f := (n1, (IntKind.u8.wrap n2))) HBc.out hCw (Nat.lt_succ_self _) (Array.getElem?_eq_some_iff.1 HBc.out.2.1).1 hown5 hgrow5; have c5 := hap.2.1; have f5 := hap.2.2.1; have HA5 := Kept.mk hap.1; clear hap hown5 hgrow5))
            go_roundw
            case rel => exact ⟨k + 1, G ++ [(n1, (IntKind.u8.wrap n2))], _, _, false, by go_num, by omega, by rw [List.length_append, hGK.out]; rfl, rfl, ⟨crS_bad HS1.out (fun e => (by cases e))⟩, HA5⟩
            case measure => simp [intOf]; omega
          | true =>
            cases i with
            | false =>
              go_wp2_with (first
                | (go_at_call 106; refine CC.out.mono ?_; rintro e wa ⟨rfl, HBa⟩)
                | (go_at_call 105; refine (number_any _ _ (by first | exact hps | exact hqs) (hE.out.below (by first | exact HBb.out.2.2.2 | exact HBa.out.2.2.2))).mono ?_; rintro e wn hn; first | (have HBd := HBb.out; obtain ⟨hb2, n2, z2, rfl, HZ2⟩ := num_parts hn; have HBc := Kept.mk (HBd.below hb2); have C3 := crb_cell HBc.out; clear hn HBd) | (obtain ⟨hb1, n1, z1, rfl, HZ1⟩ := num_parts hn; have HBb := Kept.mk (HBa.out.below hb1); have C3 := crb_cell HBb.out; clear hn))
                | (at_builtin; refine wpList_append_own _ rfl (.tmp 71) (.tmp 76) 38 rfl (C + 1) 42 i0 (.agg #[.int .i64 0, .int .u8 0]) 2 16 Tryz.underlying38 hi hz0 hz1 hz2 rfl (by decide) _ _ _ (by rfl) (HBc.out.2.2.1.alloc _) ⟨wn.heap.size, 0, none⟩ 1 1 [.int .i64 n1, .int .u8 (IntKind.u8.wrap n2)] (by rfl) (by rfl) (World.news_of_block (heap_alloc_new _ _)) (by intro u hu; simp at hu; rcases hu with rfl | rfl <;> rfl) (by unfold maxLen; omega) (by omega) (by have := (Array.getElem?_eq_some_iff.1 HBc.out.2.1).1; simp; omega) ?_; intro v' w5 hown5 hgrow5 _; obtain ⟨g5, cap5, rfl⟩ := ownsRow_succ hown5; have hap := CrB.appended (f := (n1, (IntKind.u8.wrap n2))) HBc.out hCw (Nat.lt_succ_self _) (Array.getElem?_eq_some_iff.1 HBc.out.2.1).1 hown5 hgrow5; have c5 := hap.2.1; have f5 := hap.2.2.1; have HA5 := Kept.mk hap.1; clear hap hown5 hgrow5))
              go_roundw
              case rel => exact ⟨k + 1, G ++ [(n1, (IntKind.u8.wrap n2))], _, _, false, by go_num, by omega, by rw [List.length_append, hGK.out]; rfl, rfl, ⟨crS_bad HS1.out (fun _ => by rw [fate_of HCT.out HZ1.out HZ2.out, if_neg (by simp)])⟩, HA5⟩
              case measure => simp [intOf]; omega
            | true =>
              cases hwp : Wk.wholeL p with
              | none =>
                have HWP := Kept.mk hwp
                clear hwp
                go_wp2_with (first
                  | (go_at_call 106; refine CC.out.mono ?_; rintro e wa ⟨rfl, HBa⟩)
                  | (go_at_call 105; refine (number_any _ _ (by first | exact hps | exact hqs) (hE.out.below (by first | exact HBb.out.2.2.2 | exact HBa.out.2.2.2))).mono ?_; rintro e wn hn; first | (have HBd := HBb.out; obtain ⟨hb2, n2, z2, rfl, HZ2⟩ := num_parts hn; have HBc := Kept.mk (HBd.below hb2); have C3 := crb_cell HBc.out; clear hn HBd) | (obtain ⟨hb1, n1, rfl⟩ := num_is_none hn HWP.out; have HBb := Kept.mk (HBa.out.below hb1); have C3 := crb_cell HBb.out; clear hn))
                  | (at_builtin; refine wpList_append_own _ rfl (.tmp 71) (.tmp 76) 38 rfl (C + 1) 42 i0 (.agg #[.int .i64 0, .int .u8 0]) 2 16 Tryz.underlying38 hi hz0 hz1 hz2 rfl (by decide) _ _ _ (by rfl) (HBc.out.2.2.1.alloc _) ⟨wn.heap.size, 0, none⟩ 1 1 [.int .i64 n1, .int .u8 (IntKind.u8.wrap n2)] (by rfl) (by rfl) (World.news_of_block (heap_alloc_new _ _)) (by intro u hu; simp at hu; rcases hu with rfl | rfl <;> rfl) (by unfold maxLen; omega) (by omega) (by have := (Array.getElem?_eq_some_iff.1 HBc.out.2.1).1; simp; omega) ?_; intro v' w5 hown5 hgrow5 _; obtain ⟨g5, cap5, rfl⟩ := ownsRow_succ hown5; have hap := CrB.appended (f := (n1, (IntKind.u8.wrap n2))) HBc.out hCw (Nat.lt_succ_self _) (Array.getElem?_eq_some_iff.1 HBc.out.2.1).1 hown5 hgrow5; have c5 := hap.2.1; have f5 := hap.2.2.1; have HA5 := Kept.mk hap.1; clear hap hown5 hgrow5))
                go_roundw
                case rel => exact ⟨k + 1, G ++ [(n1, (IntKind.u8.wrap n2))], _, _, false, by go_num, by omega, by rw [List.length_append, hGK.out]; rfl, rfl, ⟨crS_bad HS1.out (fun _ => by rw [Pln.fate_cut, HCT.out]; simp only [if_true, HWP.out])⟩, HA5⟩
                case measure => simp [intOf]; omega
              | some n1 =>
                have HWP := Kept.mk hwp
                clear hwp
                cases hwq : Wk.wholeL q with
                | none =>
                  have HWQ := Kept.mk hwq
                  clear hwq
                  go_wp2_with (first
                    | (go_at_call 106; refine CC.out.mono ?_; rintro e wa ⟨rfl, HBa⟩)
                    | (go_at_call 105; refine (number_any _ _ (by first | exact hps | exact hqs) (hE.out.below (by first | exact HBb.out.2.2.2 | exact HBa.out.2.2.2))).mono ?_; rintro e wn hn; first | (have HBd := HBb.out; obtain ⟨hb2, n2, rfl⟩ := num_is_none hn HWQ.out; have HBc := Kept.mk (HBd.below hb2); have C3 := crb_cell HBc.out; clear hn HBd) | (obtain ⟨hb1, rfl⟩ := num_is_some hn HWP.out; have HBb := Kept.mk (HBa.out.below hb1); have C3 := crb_cell HBb.out; clear hn))
                    | (at_builtin; refine wpList_append_own _ rfl (.tmp 71) (.tmp 76) 38 rfl (C + 1) 42 i0 (.agg #[.int .i64 0, .int .u8 0]) 2 16 Tryz.underlying38 hi hz0 hz1 hz2 rfl (by decide) _ _ _ (by rfl) (HBc.out.2.2.1.alloc _) ⟨wn.heap.size, 0, none⟩ 1 1 [.int .i64 n1, .int .u8 (IntKind.u8.wrap n2)] (by rfl) (by rfl) (World.news_of_block (heap_alloc_new _ _)) (by intro u hu; simp at hu; rcases hu with rfl | rfl <;> rfl) (by unfold maxLen; omega) (by omega) (by have := (Array.getElem?_eq_some_iff.1 HBc.out.2.1).1; simp; omega) ?_; intro v' w5 hown5 hgrow5 _; obtain ⟨g5, cap5, rfl⟩ := ownsRow_succ hown5; have hap := CrB.appended (f := (n1, (IntKind.u8.wrap n2))) HBc.out hCw (Nat.lt_succ_self _) (Array.getElem?_eq_some_iff.1 HBc.out.2.1).1 hown5 hgrow5; have c5 := hap.2.1; have f5 := hap.2.2.1; have HA5 := Kept.mk hap.1; clear hap hown5 hgrow5))
                  go_roundw
                  case rel => exact ⟨k + 1, G ++ [(n1, (IntKind.u8.wrap n2))], _, _, false, by go_num, by omega, by rw [List.length_append, hGK.out]; rfl, rfl, ⟨crS_bad HS1.out (fun _ => by rw [Pln.fate_cut, HCT.out]; simp only [if_true, HWP.out, HWQ.out])⟩, HA5⟩
                  case measure => simp [intOf]; omega
                | some n2 =>
                  have HWQ := Kept.mk hwq
                  clear hwq
                  have HF : Kept (Pln.fateL y = if 0 ≤ n2 ∧ n2 < 256 then some (n1, n2) else none) := ⟨by rw [Pln.fate_cut, HCT.out]; simp only [if_true, HWP.out, HWQ.out]⟩
                  by_cases r1 : 0 ≤ n2
                  · by_cases r2 : n2 < 256
                    · go_wp2_with (first
                        | (go_at_call 106; refine CC.out.mono ?_; rintro e wa ⟨rfl, HBa⟩)
                        | (go_at_call 105; refine (number_any _ _ (by first | exact hps | exact hqs) (hE.out.below (by first | exact HBb.out.2.2.2 | exact HBa.out.2.2.2))).mono ?_; rintro e wn hn; first | (have HBd := HBb.out; obtain ⟨hb2, rfl⟩ := num_is_some hn HWQ.out; have HBc := Kept.mk (HBd.below hb2); have C3 := crb_cell HBc.out; clear hn HBd) | (obtain ⟨hb1, rfl⟩ := num_is_some hn HWP.out; have HBb := Kept.mk (HBa.out.below hb1); have C3 := crb_cell HBb.out; clear hn))
                        | (at_builtin; refine wpList_append_own _ rfl (.tmp 71) (.tmp 76) 38 rfl (C + 1) 42 i0 (.agg #[.int .i64 0, .int .u8 0]) 2 16 Tryz.underlying38 hi hz0 hz1 hz2 rfl (by decide) _ _ _ (by rfl) (HBc.out.2.2.1.alloc _) ⟨wn.heap.size, 0, none⟩ 1 1 [.int .i64 n1, .int .u8 n2] (by rfl) (by rfl) (World.news_of_block (heap_alloc_new _ _)) (by intro u hu; simp at hu; rcases hu with rfl | rfl <;> rfl) (by unfold maxLen; omega) (by omega) (by have := (Array.getElem?_eq_some_iff.1 HBc.out.2.1).1; simp; omega) ?_; intro v' w5 hown5 hgrow5 _; obtain ⟨g5, cap5, rfl⟩ := ownsRow_succ hown5; have hap := CrB.appended (f := (n1, n2)) HBc.out hCw (Nat.lt_succ_self _) (Array.getElem?_eq_some_iff.1 HBc.out.2.1).1 hown5 hgrow5; have c5 := hap.2.1; have f5 := hap.2.2.1; have HA5 := Kept.mk hap.1; clear hap hown5 hgrow5))
                      go_roundw
                      case rel => exact ⟨k + 1, G ++ [(n1, n2)], _, _, true, by go_num, by omega, by rw [List.length_append, hGK.out]; rfl, rfl, ⟨crS_good HS1.out (by rw [HF.out, if_pos (by omega)])⟩, HA5⟩
                      case measure => simp [intOf]; omega
                    · have r3 : decide (n2 < 256) = false := by simp; omega
                      go_wp2_with (first
                        | (go_at_call 106; refine CC.out.mono ?_; rintro e wa ⟨rfl, HBa⟩)
                        | (go_at_call 105; refine (number_any _ _ (by first | exact hps | exact hqs) (hE.out.below (by first | exact HBb.out.2.2.2 | exact HBa.out.2.2.2))).mono ?_; rintro e wn hn; first | (have HBd := HBb.out; obtain ⟨hb2, rfl⟩ := num_is_some hn HWQ.out; have HBc := Kept.mk (HBd.below hb2); have C3 := crb_cell HBc.out; clear hn HBd) | (obtain ⟨hb1, rfl⟩ := num_is_some hn HWP.out; have HBb := Kept.mk (HBa.out.below hb1); have C3 := crb_cell HBb.out; clear hn))
                        | (at_builtin; refine wpList_append_own _ rfl (.tmp 71) (.tmp 76) 38 rfl (C + 1) 42 i0 (.agg #[.int .i64 0, .int .u8 0]) 2 16 Tryz.underlying38 hi hz0 hz1 hz2 rfl (by decide) _ _ _ (by rfl) (HBc.out.2.2.1.alloc _) ⟨wn.heap.size, 0, none⟩ 1 1 [.int .i64 n1, .int .u8 (IntKind.u8.wrap n2)] (by rfl) (by rfl) (World.news_of_block (heap_alloc_new _ _)) (by intro u hu; simp at hu; rcases hu with rfl | rfl <;> rfl) (by unfold maxLen; omega) (by omega) (by have := (Array.getElem?_eq_some_iff.1 HBc.out.2.1).1; simp; omega) ?_; intro v' w5 hown5 hgrow5 _; obtain ⟨g5, cap5, rfl⟩ := ownsRow_succ hown5; have hap := CrB.appended (f := (n1, (IntKind.u8.wrap n2))) HBc.out hCw (Nat.lt_succ_self _) (Array.getElem?_eq_some_iff.1 HBc.out.2.1).1 hown5 hgrow5; have c5 := hap.2.1; have f5 := hap.2.2.1; have HA5 := Kept.mk hap.1; clear hap hown5 hgrow5))
                      go_roundw
                      case rel => exact ⟨k + 1, G ++ [(n1, (IntKind.u8.wrap n2))], _, _, false, by go_num, by omega, by rw [List.length_append, hGK.out]; rfl, rfl, ⟨crS_bad HS1.out (fun _ => by rw [HF.out, if_neg (by omega)])⟩, HA5⟩
                      case measure => simp [intOf]; omega
                  · go_wp2_with (first
                      | (go_at_call 106; refine CC.out.mono ?_; rintro e wa ⟨rfl, HBa⟩)
                      | (go_at_call 105; refine (number_any _ _ (by first | exact hps | exact hqs) (hE.out.below (by first | exact HBb.out.2.2.2 | exact HBa.out.2.2.2))).mono ?_; rintro e wn hn; first | (have HBd := HBb.out; obtain ⟨hb2, rfl⟩ := num_is_some hn HWQ.out; have HBc := Kept.mk (HBd.below hb2); have C3 := crb_cell HBc.out; clear hn HBd) | (obtain ⟨hb1, rfl⟩ := num_is_some hn HWP.out; have HBb := Kept.mk (HBa.out.below hb1); have C3 := crb_cell HBb.out; clear hn))
                      | (at_builtin; refine wpList_append_own _ rfl (.tmp 71) (.tmp 76) 38 rfl (C + 1) 42 i0 (.agg #[.int .i64 0, .int .u8 0]) 2 16 Tryz.underlying38 hi hz0 hz1 hz2 rfl (by decide) _ _ _ (by rfl) (HBc.out.2.2.1.alloc _) ⟨wn.heap.size, 0, none⟩ 1 1 [.int .i64 n1, .int .u8 (IntKind.u8.wrap n2)] (by rfl) (by rfl) (World.news_of_block (heap_alloc_new _ _)) (by intro u hu; simp at hu; rcases hu with rfl | rfl <;> rfl) (by unfold maxLen; omega) (by omega) (by have := (Array.getElem?_eq_some_iff.1 HBc.out.2.1).1; simp; omega) ?_; intro v' w5 hown5 hgrow5 _; obtain ⟨g5, cap5, rfl⟩ := ownsRow_succ hown5; have hap := CrB.appended (f := (n1, (IntKind.u8.wrap n2))) HBc.out hCw (Nat.lt_succ_self _) (Array.getElem?_eq_some_iff.1 HBc.out.2.1).1 hown5 hgrow5; have c5 := hap.2.1; have f5 := hap.2.2.1; have HA5 := Kept.mk hap.1; clear hap hown5 hgrow5))
                    go_roundw
                    case rel => exact ⟨k + 1, G ++ [(n1, (IntKind.u8.wrap n2))], _, _, false, by go_num, by omega, by rw [List.length_append, hGK.out]; rfl, rfl, ⟨crS_bad HS1.out (fun _ => by rw [HF.out, if_neg (by omega)])⟩, HA5⟩
                    case measure => simp [intOf]; omega
        · obtain rfl : k = r.length := by omega
          have hcell := HB.out.2.1
          have e0 := cell_of_row wr C 0 _ _ _ hcell
          have e1 := cell_of_row wr C 1 _ _ _ hcell
          have e2 := cell_of_row wr C 2 _ _ _ hcell
          have e3 := cell_of_row wr C 3 _ _ _ hcell
          have hres := HB.out.1
          have d0 := cell_of_row wr w.heap.size 0 _ _ _ hres
          have d1 := cell_of_row wr w.heap.size 1 _ _ _ hres
          have d2 := cell_of_row wr w.heap.size 2 _ _ _ hres
          have d3 := cell_of_row wr w.heap.size 3 _ _ _ hres
          have f0 := fun i => frozen_of_row wr w.heap.size i hres
          have HS2 := HS.out
          rw [List.drop_length] at HS2
          have HS3 := Kept.mk HS2
          clear HS2 hcell hres
          go_wp2
          have hz4 := set4 (.int .u8 6) (.string ⟨#[]⟩) (.int .i64 n) (.slice A2 r.length cv) HB.out.1
          have r0 := cell_of_row _ w.heap.size 0 _ _ _ hz4
          have r1 := cell_of_row _ w.heap.size 1 _ _ _ hz4
          have r2 := cell_of_row _ w.heap.size 2 _ _ _ hz4
          have r3 := cell_of_row _ w.heap.size 3 _ _ _ hz4
          refine bodyPost_ret (v := .tuple #[cmdV 6 [] n (.slice A2 r.length cv), .bool z]) (by simp [results, Tryz.results69, go_sem, cmdV, r0, r1, r2, r3]) rfl ?_
          exact cr_done HB.out HS3.out hGK.out hCw (Nat.lt_succ_self _)
end Go.Proofs.YtakccaldcolbmaaGreatDoor.Wln
