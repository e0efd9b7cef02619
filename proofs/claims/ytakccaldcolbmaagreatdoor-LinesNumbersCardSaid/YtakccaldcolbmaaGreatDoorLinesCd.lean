/- The walk over the program's command (chapter 31). -/
import Derived.Test.YtakccaldcolbmaaGreatDoorLinesCr
import Derived.Test.YtakccaldcolbmaaGreatDoorLinesTx
import Derived.Test.YtakccaldcolbmaaGreatDoorLinesRefCd
import Derived.Deep.QuietTactic
import Derived.BigQuiet
namespace Go.Proofs.YtakccaldcolbmaaGreatDoor.Wln
open Go Go.RowKit Go.Proofs.YtakccaldcolbmaaGreatDoor.Kb

/-- the verbs: word, kind, number, whether it has a text -/
def verbsL : List (List UInt8 × Int × Int × Bool) := [(Pln.wLoad, 1, 0, true), (Pln.wQuery, 2, 1, true), (Pln.wScan, 2, 0, true), (Pln.wUpdate, 3, 0, true), (Pln.wPoint, 4, 0, false), (Pln.wDump, 5, 0, false), (Pln.wOpen, 7, 0, false)]
def verbA : Array Value := verbCells.toArray
theorem verb_cases {k : Nat} {v : List UInt8 × Int × Int × Bool} (h : verbsL[k]? = some v) : k = 0 ∨ k = 1 ∨ k = 2 ∨ k = 3 ∨ k = 4 ∨ k = 5 ∨ k = 6 := by
  have : k < 7 := (List.getElem?_eq_some_iff.1 h).1
  omega
set_option maxRecDepth 100000 in
theorem verb_index (k : Nat) (W : List UInt8) (K N : Int) (T : Bool) (w : World) (hx : verbsL[k]? = some (W, K, N, T)) : (Instr.index 132 (.agg verbA) (.int .i64 k)).run Tryz.prog w = .ok (.agg #[.string ⟨W.toArray⟩, .int .u8 K, .int .i64 N, .bool T]) w := by
  rcases verb_cases hx with rfl | rfl | rfl | rfl | rfl | rfl | rfl
  all_goals (cases hx; show _ = _; kernel_rfl)
theorem info_verbs : (Tryz.prog.info? 132).map (·.size) = some verbA.size := by kernel_rfl
/-- what a verb makes of its words -/
def hitL (K N : Int) (T : Bool) (r : List (List UInt8)) : Option Pln.Cmd := if T = true then Pln.oneL K.toNat N r else Pln.bareL K.toNat r
theorem cmd_hit {k : Nat} {W : List UInt8} {K N : Int} {T : Bool} (h : verbsL[k]? = some (W, K, N, T)) (r : List (List UInt8)) : Pln.cmdL (W :: r) = hitL K N T r ∧ ((K.toNat : Nat) : Int) = K ∧ (T = false → N = 0) := by
  rcases verb_cases h with rfl | rfl | rfl | rfl | rfl | rfl | rfl <;> (cases h; exact ⟨rfl, rfl, by decide⟩)
theorem cmd_none {x : List UInt8} (hc : ¬ x = Pln.wCrash) (h : ∀ j W K N T, j < 7 → verbsL[j]? = some (W, K, N, T) → x ≠ W) (r : List (List UInt8)) : Pln.cmdL (x :: r) = none := by
  rw [Pln.cmdL_cons, if_neg hc, if_neg (h 0 _ _ _ _ (by omega) rfl), if_neg (h 1 _ _ _ _ (by omega) rfl), if_neg (h 2 _ _ _ _ (by omega) rfl), if_neg (h 3 _ _ _ _ (by omega) rfl), if_neg (h 4 _ _ _ _ (by omega) rfl), if_neg (h 5 _ _ _ _ (by omega) rfl), if_neg (h 6 _ _ _ _ (by omega) rfl)]
/-- the result's block -/
def RC (w W : World) : Prop := W.heap[w.heap.size]? = some (.cells #[.int .u8 0, .string ⟨#[]⟩, .int .i64 0, .slice none 0 0] 40 (0, 0)) ∧ Below w.heap.size w W
theorem RC.below {w W W' : World} (h : RC w W) (hb : Below W.heap.size W W') : RC w W' := ⟨(hb.block _ (Array.getElem?_eq_some_iff.1 h.1).1).trans h.1, h.2.trans (hb.mono h.2.size)⟩
theorem RC.cells {w W : World} (h : RC w W) : W.cell? ⟨w.heap.size, 0, none⟩ = some (.int .u8 0) ∧ W.cell? ⟨w.heap.size, 1, none⟩ = some (.string ⟨#[]⟩) ∧ W.cell? ⟨w.heap.size, 2, none⟩ = some (.int .i64 0) ∧ W.cell? ⟨w.heap.size, 3, none⟩ = some (.slice none 0 0) ∧ (∀ i, W.frozen? ⟨w.heap.size, i, none⟩ = false) ∧ w.heap.size < W.heap.size :=
  ⟨by rw [cell_of_row W _ 0 _ _ _ h.1]; rfl, by rw [cell_of_row W _ 1 _ _ _ h.1]; rfl, by rw [cell_of_row W _ 2 _ _ _ h.1]; rfl, by rw [cell_of_row W _ 3 _ _ _ h.1]; rfl, fun i => frozen_of_row W _ i h.1, (Array.getElem?_eq_some_iff.1 h.1).1⟩
set_option maxRecDepth 100000 in
set_option maxHeartbeats 16000000 in
theorem command_cons (g off c : Nat) (x : List UInt8) (r : List (List UInt8)) (w : World) (hE : LEnv w) (hr : RdS w (some ⟨g, off, none⟩) (x :: r)) (hc : r.length + 1 ≤ c) (hL : r.length + 1 ≤ 65536) (hsz : ∀ y ∈ x :: r, y.length ≤ 65536 ∧ (y.head? = some 34 → 2 ≤ y.length)) :
    Calls Tryz.prog 35 #[.slice (some ⟨g, off, none⟩) (r.length + 1) c] w (CmdIs w (Pln.cmdL (x :: r))) := by
  obtain ⟨g', off', eA, hx0⟩ := hr 0 x rfl
  cases eA
  rw [Nat.add_zero] at hx0
  have hgw := cell_lt hx0
  have b0 : (0 : Int) < (r.length : Int) + 1 := by omega
  have b9 : (((r.length : Int) + 1) == 0) = false := by simp; omega
  have hR : Kept (RdS w (some ⟨g, off, none⟩) (x :: r)) := ⟨hr⟩
  have hS := Kept.mk (fun y (hy : y ∈ x :: r) => (hsz y hy).1)
  have hQ := Kept.mk (fun y (hy : y ∈ x :: r) => (hsz y hy).2)
  have HE := Kept.mk hE
  clear hr hsz hE
  by_cases eCrash : x = Pln.wCrash
  · have hcm : Pln.cmdL (x :: r) = Pln.crashL r := by rw [Pln.cmdL_cons, if_pos eCrash]
    rw [hcm]
    have qCrash : (x == [99, 114, 97, 115, 104]) = true := by rw [eCrash]; decide
    have qLoad : (x == [108, 111, 97, 100]) = false := by rw [eCrash]; decide
    have qQuery : (x == [113, 117, 101, 114, 121]) = false := by rw [eCrash]; decide
    have qScan : (x == [115, 99, 97, 110]) = false := by rw [eCrash]; decide
    have qUpdate : (x == [117, 112, 100, 97, 116, 101]) = false := by rw [eCrash]; decide
    have qPoint : (x == [112, 111, 105, 110, 116]) = false := by rw [eCrash]; decide
    have qDump : (x == [100, 117, 109, 112]) = false := by rw [eCrash]; decide
    have qOpen : (x == [111, 112, 101, 110]) = false := by rw [eCrash]; decide
    clear hcm eCrash
    have hB0 : Below w.heap.size w (w.alloc (.cells #[.int .u8 0, .string ⟨#[]⟩, .int .i64 0, .slice none 0 0] 40)) := (Below.refl _ _).alloc (Nat.le_refl _) _
    have hn0 := World.alloc_heap_new w (.cells #[.int .u8 0, .string ⟨#[]⟩, .int .i64 0, .slice none 0 0] 40)
    have HB0 := Kept.mk (And.intro hB0 hn0)
    have l1 : (1 : Int) ≤ (r.length : Int) + 1 := by omega
    have l2 : (0 : Int) ≤ (c : Int) - 1 := by omega
    by_cases hc1 : c = 1
    · subst hc1
      have hrn : r = [] := by cases r with | nil => rfl | cons _ _ => simp at hc
      subst hrn
      have cC := crash_any (some ⟨g, off, none⟩) 0 [] (w.alloc (.cells #[.int .u8 0, .string ⟨#[]⟩, .int .i64 0, .slice none 0 0] 40)) (HE.out.below hB0) (fun i y h => by cases h) (Nat.le_refl _) (by simp) (fun y h => by cases h)
      have CC := Kept.mk cC
      clear cC hB0 hn0
      go_enter Tryz.func35, Tryz.ntmps35
      go_wp2_with (go_at_call 69; refine CC.out.mono ?_; rintro e w5 ⟨hb5, he⟩; obtain ⟨k', t', n', A', m', c', rfl⟩ : ∃ k' t' n' A' m' c', e = .returned (.tuple #[.agg #[.int .u8 k', .string ⟨t'⟩, .int .i64 n', .slice A' m' c'], .bool false]) := (by obtain ⟨k, t, n, A, m, c, h⟩ := he; exact ⟨k, _, n, A, m, c, h⟩); have hr5 := (hb5.block _ (Array.getElem?_eq_some_iff.1 HB0.out.2).1).trans HB0.out.2; have d0 := cell_of_row w5 w.heap.size 0 _ _ _ hr5; have d1 := cell_of_row w5 w.heap.size 1 _ _ _ hr5; have d2 := cell_of_row w5 w.heap.size 2 _ _ _ hr5; have d3 := cell_of_row w5 w.heap.size 3 _ _ _ hr5; have f0 := (fun i => frozen_of_row w5 w.heap.size i hr5); have H5 := Kept.mk (And.intro hb5 hr5); clear hb5 hr5 he)
      have hz4 := set4 (.int .u8 k') (.string ⟨t'⟩) (.int .i64 n') (.slice A' m' c') H5.out.2
      have r0 := cell_of_row _ w.heap.size 0 _ _ _ hz4
      have r1 := cell_of_row _ w.heap.size 1 _ _ _ hz4
      have r2 := cell_of_row _ w.heap.size 2 _ _ _ hz4
      have r3 := cell_of_row _ w.heap.size 3 _ _ _ hz4
      refine bodyPost_ret (v := .tuple #[.agg #[.int .u8 k', .string ⟨t'⟩, .int .i64 n', .slice A' m' c'], .bool false]) (by simp [results, Tryz.results35, go_sem, r0, r1, r2, r3]) rfl ?_
      have hbb := HB0.out.1.trans (H5.out.1.mono HB0.out.1.size)
      exact ⟨((((hbb.setCell (p := ⟨w.heap.size, 0, none⟩) (Nat.le_refl _) _).setCell (p := ⟨w.heap.size, 1, none⟩) (Nat.le_refl _) _).setCell (p := ⟨w.heap.size, 2, none⟩) (Nat.le_refl _) _).setCell (p := ⟨w.heap.size, 3, none⟩) (Nat.le_refl _) _), k', t'.toList, n', A', m', c', by simp [cmdV]⟩
    · have cC := crash_any (some ⟨g, off + 1, none⟩) (c - 1) r (w.alloc (.cells #[.int .u8 0, .string ⟨#[]⟩, .int .i64 0, .slice none 0 0] 40)) (HE.out.below hB0) (hR.out.tail.below hB0) (by omega) (by omega) (fun y h => hS.out y (List.mem_cons_of_mem x h))
      cases hcr : Pln.crashL r with
      | none =>
        rw [hcr] at cC
        have CC := Kept.mk cC
        clear cC hB0 hn0 hcr
        go_enter Tryz.func35, Tryz.ntmps35
        go_wp2_with (go_at_call 69; refine CC.out.mono ?_; rintro e w5 ⟨hb5, k', t', n', A', m', c', rfl⟩; have hr5 := (hb5.block _ (Array.getElem?_eq_some_iff.1 HB0.out.2).1).trans HB0.out.2; have d0 := cell_of_row w5 w.heap.size 0 _ _ _ hr5; have d1 := cell_of_row w5 w.heap.size 1 _ _ _ hr5; have d2 := cell_of_row w5 w.heap.size 2 _ _ _ hr5; have d3 := cell_of_row w5 w.heap.size 3 _ _ _ hr5; have f0 := (fun i => frozen_of_row w5 w.heap.size i hr5); have H5 := Kept.mk (And.intro hb5 hr5); clear hb5 hr5; simp only [cmdV])
        have hz4 := set4 (.int .u8 k') (.string ⟨t'.toArray⟩) (.int .i64 n') (.slice A' m' c') H5.out.2
        have r0 := cell_of_row _ w.heap.size 0 _ _ _ hz4
        have r1 := cell_of_row _ w.heap.size 1 _ _ _ hz4
        have r2 := cell_of_row _ w.heap.size 2 _ _ _ hz4
        have r3 := cell_of_row _ w.heap.size 3 _ _ _ hz4
        refine bodyPost_ret (v := .tuple #[cmdV k' t' n' (.slice A' m' c'), .bool false]) (by simp [results, Tryz.results35, go_sem, cmdV, r0, r1, r2, r3]) rfl ?_
        have hbb := HB0.out.1.trans (H5.out.1.mono HB0.out.1.size)
        exact ⟨((((hbb.setCell (p := ⟨w.heap.size, 0, none⟩) (Nat.le_refl _) _).setCell (p := ⟨w.heap.size, 1, none⟩) (Nat.le_refl _) _).setCell (p := ⟨w.heap.size, 2, none⟩) (Nat.le_refl _) _).setCell (p := ⟨w.heap.size, 3, none⟩) (Nat.le_refl _) _), k', t', n', A', m', c', rfl⟩
      | some cm =>
        obtain ⟨k', t', n', F'⟩ := cm
        rw [hcr] at cC
        have CC := Kept.mk cC
        clear cC hB0 hn0 hcr
        go_enter Tryz.func35, Tryz.ntmps35
        go_wp2_with (go_at_call 69; refine CC.out.mono ?_; rintro e w5 ⟨hb5, A', c', rfl, hF⟩; have hr5 := (hb5.block _ (Array.getElem?_eq_some_iff.1 HB0.out.2).1).trans HB0.out.2; have d0 := cell_of_row w5 w.heap.size 0 _ _ _ hr5; have d1 := cell_of_row w5 w.heap.size 1 _ _ _ hr5; have d2 := cell_of_row w5 w.heap.size 2 _ _ _ hr5; have d3 := cell_of_row w5 w.heap.size 3 _ _ _ hr5; have f0 := (fun i => frozen_of_row w5 w.heap.size i hr5); have H5 := Kept.mk (And.intro hb5 hr5); have HF5 := Kept.mk hF; clear hb5 hr5 hF; simp only [cmdV])
        have hz4 := set4 (.int .u8 (k' : Int)) (.string ⟨t'.toArray⟩) (.int .i64 n') (.slice A' F'.length c') H5.out.2
        have r0 := cell_of_row _ w.heap.size 0 _ _ _ hz4
        have r1 := cell_of_row _ w.heap.size 1 _ _ _ hz4
        have r2 := cell_of_row _ w.heap.size 2 _ _ _ hz4
        have r3 := cell_of_row _ w.heap.size 3 _ _ _ hz4
        refine bodyPost_ret (v := .tuple #[cmdV k' t' n' (.slice A' F'.length c'), .bool true]) (by simp [results, Tryz.results35, go_sem, cmdV, r0, r1, r2, r3]) rfl ?_
        have hbb := HB0.out.1.trans (H5.out.1.mono HB0.out.1.size)
        refine ⟨((((hbb.setCell (p := ⟨w.heap.size, 0, none⟩) (Nat.le_refl _) _).setCell (p := ⟨w.heap.size, 1, none⟩) (Nat.le_refl _) _).setCell (p := ⟨w.heap.size, 2, none⟩) (Nat.le_refl _) _).setCell (p := ⟨w.heap.size, 3, none⟩) (Nat.le_refl _) _), A', c', rfl, ?_⟩
        refine own_base (own_far HF5.out fun g hg hlt => ?_) HB0.out.1.size
        rw [World.size_alloc] at hg
        rw [Below.heap_setCell _ _ _ _ (by show g ≠ w.heap.size; omega), Below.heap_setCell _ _ _ _ (by show g ≠ w.heap.size; omega), Below.heap_setCell _ _ _ _ (by show g ≠ w.heap.size; omega), Below.heap_setCell _ _ _ _ (by show g ≠ w.heap.size; omega)]
  have qCrash : (x == [99, 114, 97, 115, 104]) = false := eqf eCrash
  have hrc : RC w (w.alloc (.cells #[.int .u8 0, .string ⟨#[]⟩, .int .i64 0, .slice none 0 0] 40)) := ⟨World.alloc_heap_new w _, (Below.refl _ _).alloc (Nat.le_refl _) _⟩
  obtain ⟨ts, fs, hsg⟩ := (HE.out.below hrc.2).verbs
  have HSG := Kept.mk hsg
  have HRC := Kept.mk hrc
  have HX0 := Kept.mk hx0
  have HCR := Kept.mk eCrash
  clear hsg hrc eCrash
  go_enter Tryz.func35, Tryz.ntmps35
  go_upto_region 3 with (fail)
  go_wp2_with (refine wpList_load_row rfl _ _ rfl 1 rfl ts verbA fs _ HSG.out Tryz.underlying132 rfl info_verbs ?_)
  generalize w.alloc (.cells #[.int .u8 0, .string ⟨#[]⟩, .int .i64 0, .slice none 0 0] 40) = W2 at HRC HSG ⊢
  clear HSG hx0
  go_loopw [5, 6, 7, 8, 24] (fun _ _ _ _ i wx => ∃ k : Nat, i = .int .i64 k ∧ k ≤ 7 ∧ Kept (∀ j W K N T, j < k → verbsL[j]? = some (W, K, N, T) → x ≠ W) ∧ Kept (RC w wx)) (fun _ _ _ _ i _ => 7 - (intOf i).toNat)
  case atStart => exact ⟨0, rfl, by omega, ⟨fun j _ _ _ _ hj => absurd hj (by omega)⟩, HRC⟩
  case round =>
    clear HRC
    obtain ⟨k, rfl, hk, HJ, HRC⟩ := hrel
    have k0 : (0 : Int) ≤ (k : Int) := by omega
    have hx0 : wr.cell? ⟨g, off, none⟩ = some (.string ⟨x.toArray⟩) := by rw [HRC.out.2.cell (p := ⟨g, off, none⟩) hgw]; exact HX0.out
    have hgr : g < wr.heap.size := cell_lt hx0
    by_cases hlt : k < 7
    · have k1 : (k : Int) < 7 := by omega
      obtain ⟨⟨W, K, N, T⟩, hv⟩ : ∃ v, verbsL[k]? = some v := ⟨_, List.getElem?_eq_getElem (show k < verbsL.length from hlt)⟩
      have hix := fun wx => verb_index k W K N T wx hv
      have HV := Kept.mk hv
      clear hv
      by_cases e : x = W
      · subst e
        have q1 : (x != x) = false := by simp
        obtain ⟨hcm, hK, hN⟩ := cmd_hit HV.out r
        have HCM := Kept.mk hcm
        have HKK := Kept.mk hK
        have HNN := Kept.mk hN
        clear hcm hK hN
        go_upto_region 6 with (fail)
        go_quiet (fail)
        have hvn : ((wr.alloc (.cells #[.string ⟨x.toArray⟩, .int .u8 K, .int .i64 N, .bool T] 131)).drewN nq).heap[wr.heap.size]? = some (.cells #[.string ⟨x.toArray⟩, .int .u8 K, .int .i64 N, .bool T] 131 (0, 0)) := by
          have h1 := World.alloc_heap_new wr (.cells #[.string ⟨x.toArray⟩, .int .u8 K, .int .i64 N, .bool T] 131)
          have h2 := (Bl.drewN (wr.alloc (.cells #[.string ⟨x.toArray⟩, .int .u8 K, .int .i64 N, .bool T] 131)) nq).block wr.heap.size (by simp)
          exact h2.trans h1
        have hbb : Below wr.heap.size wr ((wr.alloc (.cells #[.string ⟨x.toArray⟩, .int .u8 K, .int .i64 N, .bool T] 131)).drewN nq) := ((Below.refl _ _).alloc (Nat.le_refl _) _).trans ((Bl.drewN _ nq).mono (by simp))
        have hrc2 := HRC.out.below hbb
        generalize (wr.alloc (.cells #[.string ⟨x.toArray⟩, .int .u8 K, .int .i64 N, .bool T] 131)).drewN nq = W3 at hvn hrc2 hbb ⊢
        have v0 := cell_of_row W3 wr.heap.size 0 _ _ _ hvn
        have v1 := cell_of_row W3 wr.heap.size 1 _ _ _ hvn
        have v2 := cell_of_row W3 wr.heap.size 2 _ _ _ hvn
        have v3 := cell_of_row W3 wr.heap.size 3 _ _ _ hvn
        have lv := (Array.getElem?_eq_some_iff.1 hvn).1
        obtain ⟨d0, d1, d2, d3, f0, l0⟩ := hrc2.cells
        have HRC2 := Kept.mk hrc2
        clear hvn hbb hrc2 hix
        cases T with
        | false =>
          have hres2 : Pln.cmdL (x :: r) = Pln.bareL K.toNat r := HCM.out
          have hN0 : N = 0 := HNN.out rfl
          subst hN0
          have HRES := Kept.mk hres2
          have hz4 := set4 (.int .u8 K) (.string ⟨#[]⟩) (.int .i64 0) (.slice none 0 0) HRC2.out.1
          have hb4 := ((((HRC2.out.2.setCell (p := ⟨w.heap.size, 0, none⟩) (Nat.le_refl _) (.int .u8 K)).setCell (p := ⟨w.heap.size, 1, none⟩) (Nat.le_refl _) (.string ⟨#[]⟩)).setCell (p := ⟨w.heap.size, 2, none⟩) (Nat.le_refl _) (.int .i64 0)).setCell (p := ⟨w.heap.size, 3, none⟩) (Nat.le_refl _) (.slice none 0 0))
          have hz5 := (Below.heap_alloc _ (.cells #[.int .u8 K, .string ⟨#[]⟩, .int .i64 0, .slice none 0 0] 40) _ (Array.getElem?_eq_some_iff.1 hz4).1).trans hz4
          have r0 := cell_of_row _ w.heap.size 0 _ _ _ hz5
          have r1 := cell_of_row _ w.heap.size 1 _ _ _ hz5
          have r2 := cell_of_row _ w.heap.size 2 _ _ _ hz5
          have r3 := cell_of_row _ w.heap.size 3 _ _ _ hz5
          have HRR := Kept.mk (And.intro r0 (And.intro r1 (And.intro r2 r3)))
          have HB4 := Kept.mk (hb4.alloc hb4.size (.cells #[.int .u8 K, .string ⟨#[]⟩, .int .i64 0, .slice none 0 0] 40))
          clear hz4 hb4 hz5 r0 r1 r2 r3 hres2
          by_cases h1 : r = []
          · have b1 : (((r.length : Int) + 1) == 1) = true := by rw [h1]; rfl
            have HR1 := Kept.mk h1
            clear h1
            go_wp2
            obtain ⟨r0, r1, r2, r3⟩ := HRR.out
            refine bodyPost_ret (v := .tuple #[cmdV K [] 0 (.slice none 0 0), .bool true]) (by simp [results, Tryz.results35, go_sem, cmdV, r0, r1, r2, r3]) rfl ?_
            rw [HRES.out, HR1.out]
            refine ⟨HB4.out, none, 0, ?_, World.ownsRow_nil _ _ _ _⟩
            rw [HKK.out]
            rfl
          · have b1 : (((r.length : Int) + 1) == 1) = false := by
              have := List.length_pos_iff.2 h1
              simp
              omega
            have HR1 := Kept.mk h1
            clear h1
            go_wp2
            obtain ⟨r0, r1, r2, r3⟩ := HRR.out
            refine bodyPost_ret (v := .tuple #[cmdV K [] 0 (.slice none 0 0), .bool false]) (by simp [results, Tryz.results35, go_sem, cmdV, r0, r1, r2, r3]) rfl ?_
            rw [HRES.out]
            have hno : Pln.bareL K.toNat r = none := by
              cases r with
              | nil => exact absurd rfl HR1.out
              | cons _ _ => rfl
            rw [hno]
            exact ⟨HB4.out, K, [], 0, none, 0, 0, rfl⟩
        | true =>
          have hres2 : Pln.cmdL (x :: r) = Pln.oneL K.toNat N r := HCM.out
          have HRES := Kept.mk hres2
          clear hres2
          by_cases h1 : r.length = 1
          · obtain ⟨y, rfl⟩ : ∃ y, r = [y] := by
              cases r with
              | nil => cases h1
              | cons y t =>
                have : t = [] := List.length_eq_zero_iff.1 (by simpa using h1)
                exact ⟨y, by rw [this]⟩
            obtain ⟨g2, off2, eA, hy0⟩ := (hR.out.below HRC2.out.2) 1 y rfl
            cases eA
            have hgy := cell_lt hy0
            have hys : y.length ≤ 65536 := hS.out y (by simp)
            have cT : ∀ wx, Calls Tryz.prog 70 #[.string ⟨y.toArray⟩] wx (TextIs wx (Pln.textL y)) := fun wx => text_any ⟨y.toArray⟩ wx (by rw [Lib.size_mk]; omega) (by rw [Lib.size_mk]; exact hQ.out y (by simp))
            have hn1 := World.alloc_heap_new W3 (.cells #[.int .u8 K, .string ⟨#[]⟩, .int .i64 N, .slice none 0 0] 40)
            have hrc3 := HRC2.out.below ((Below.refl W3.heap.size W3).alloc (Nat.le_refl _) (.cells #[.int .u8 K, .string ⟨#[]⟩, .int .i64 N, .slice none 0 0] 40))
            have HB0 := Kept.mk (And.intro hrc3 hn1)
            clear hn1 hrc3 h1 hys
            cases htx : Pln.textL y with
            | none =>
              rw [htx] at cT
              have CT := Kept.mk cT
              have HTX := Kept.mk htx
              clear cT htx
              go_wp2_with (go_at_call 70; refine (CT.out _).mono ?_; rintro e w5 ⟨hb5, rfl⟩; have hrc5 := HB0.out.1.below hb5; obtain ⟨d0, d1, d2, d3, f0, l0⟩ := hrc5.cells; have hc5 := (hb5.block _ (Array.getElem?_eq_some_iff.1 HB0.out.2).1).trans HB0.out.2; have c0 := cell_of_row w5 W3.heap.size 0 _ _ _ hc5; have c1 := cell_of_row w5 W3.heap.size 1 _ _ _ hc5; have c2 := cell_of_row w5 W3.heap.size 2 _ _ _ hc5; have c3 := cell_of_row w5 W3.heap.size 3 _ _ _ hc5; have f1 := (fun i => frozen_of_row w5 W3.heap.size i hc5); have H5 := Kept.mk hrc5; clear hb5 hrc5 hc5)
              have hz := one_done (w := w) (C := W3.heap.size) (k := K) (n := N) (t := []) H5.out.1 H5.out.2 (Array.getElem?_eq_some_iff.1 HRC2.out.1).1
              have r0 := cell_of_row _ w.heap.size 0 _ _ _ hz.1
              have r1 := cell_of_row _ w.heap.size 1 _ _ _ hz.1
              have r2 := cell_of_row _ w.heap.size 2 _ _ _ hz.1
              have r3 := cell_of_row _ w.heap.size 3 _ _ _ hz.1
              refine bodyPost_ret (v := .tuple #[cmdV K [] N (.slice none 0 0), .bool false]) (by simp [results, Tryz.results35, go_sem, cmdV, r0, r1, r2, r3]) rfl ?_
              rw [HRES.out, show Pln.oneL K.toNat N [y] = (Pln.textL y).map fun t => (K.toNat, t, N, []) from rfl, HTX.out]
              refine ⟨hz.2, K, [], N, none, 0, 0, rfl⟩
            | some t =>
              rw [htx] at cT
              have CT := Kept.mk cT
              have HTX := Kept.mk htx
              clear cT htx
              go_wp2_with (go_at_call 70; refine (CT.out _).mono ?_; rintro e w5 ⟨hb5, rfl⟩; have hrc5 := HB0.out.1.below hb5; obtain ⟨d0, d1, d2, d3, f0, l0⟩ := hrc5.cells; have hc5 := (hb5.block _ (Array.getElem?_eq_some_iff.1 HB0.out.2).1).trans HB0.out.2; have c0 := cell_of_row w5 W3.heap.size 0 _ _ _ hc5; have c1 := cell_of_row w5 W3.heap.size 1 _ _ _ hc5; have c2 := cell_of_row w5 W3.heap.size 2 _ _ _ hc5; have c3 := cell_of_row w5 W3.heap.size 3 _ _ _ hc5; have f1 := (fun i => frozen_of_row w5 W3.heap.size i hc5); have H5 := Kept.mk hrc5; clear hb5 hrc5 hc5)
              have hz := one_done (w := w) (C := W3.heap.size) (k := K) (n := N) (t := t) H5.out.1 H5.out.2 (Array.getElem?_eq_some_iff.1 HRC2.out.1).1
              have r0 := cell_of_row _ w.heap.size 0 _ _ _ hz.1
              have r1 := cell_of_row _ w.heap.size 1 _ _ _ hz.1
              have r2 := cell_of_row _ w.heap.size 2 _ _ _ hz.1
              have r3 := cell_of_row _ w.heap.size 3 _ _ _ hz.1
              refine bodyPost_ret (v := .tuple #[cmdV K t N (.slice none 0 0), .bool true]) (by simp [results, Tryz.results35, go_sem, cmdV, r0, r1, r2, r3]) rfl ?_
              rw [HRES.out, show Pln.oneL K.toNat N [y] = (Pln.textL y).map fun t => (K.toNat, t, N, []) from rfl, HTX.out]
              refine ⟨hz.2, none, 0, by rw [HKK.out]; rfl, World.ownsRow_nil _ _ _ _⟩
          · have hno : Pln.oneL K.toNat N r = none := by
              cases r with
              | nil => rfl
              | cons y t =>
                cases t with
                | nil => exact absurd rfl h1
                | cons _ _ => rfl
            have b2 : (((r.length : Int) + 1) != 2) = true := by simp; omega
            have hz4 := set4 (.int .u8 K) (.string ⟨#[]⟩) (.int .i64 N) (.slice none 0 0) HRC2.out.1
            have hb4 := ((((HRC2.out.2.setCell (p := ⟨w.heap.size, 0, none⟩) (Nat.le_refl _) (.int .u8 K)).setCell (p := ⟨w.heap.size, 1, none⟩) (Nat.le_refl _) (.string ⟨#[]⟩)).setCell (p := ⟨w.heap.size, 2, none⟩) (Nat.le_refl _) (.int .i64 N)).setCell (p := ⟨w.heap.size, 3, none⟩) (Nat.le_refl _) (.slice none 0 0))
            have hz5 := (Below.heap_alloc _ (.cells #[.int .u8 K, .string ⟨#[]⟩, .int .i64 N, .slice none 0 0] 40) _ (Array.getElem?_eq_some_iff.1 hz4).1).trans hz4
            have r0 := cell_of_row _ w.heap.size 0 _ _ _ hz5
            have r1 := cell_of_row _ w.heap.size 1 _ _ _ hz5
            have r2 := cell_of_row _ w.heap.size 2 _ _ _ hz5
            have r3 := cell_of_row _ w.heap.size 3 _ _ _ hz5
            have HRR := Kept.mk (And.intro r0 (And.intro r1 (And.intro r2 r3)))
            have HB4 := Kept.mk (hb4.alloc hb4.size (.cells #[.int .u8 K, .string ⟨#[]⟩, .int .i64 N, .slice none 0 0] 40))
            have HNO := Kept.mk hno
            clear hz4 hb4 hz5 r0 r1 r2 r3 hno h1
            go_wp2
            obtain ⟨r0, r1, r2, r3⟩ := HRR.out
            refine bodyPost_ret (v := .tuple #[cmdV K [] N (.slice none 0 0), .bool false]) (by simp [results, Tryz.results35, go_sem, cmdV, r0, r1, r2, r3]) rfl ?_
            rw [HRES.out, HNO.out]
            exact ⟨HB4.out, K, [], N, none, 0, 0, rfl⟩
      · have q1 : (x == W) = false := eqf e
        have HJ2 : Kept (∀ j W' K N T, j < k + 1 → verbsL[j]? = some (W', K, N, T) → x ≠ W') := ⟨fun j W' K' N' T' h hv => by
          by_cases ej : j = k
          · subst ej
            rw [HV.out] at hv
            cases hv
            exact e
          · exact HJ.out j W' K' N' T' (by omega) hv⟩
        go_upto_region 6 with (fail)
        go_quiet (fail)
        have hbb : Below wr.heap.size wr ((wr.alloc (.cells #[.string ⟨W.toArray⟩, .int .u8 K, .int .i64 N, .bool T] 131)).drewN nq) := ((Below.refl _ _).alloc (Nat.le_refl _) _).trans ((Bl.drewN _ nq).mono (by simp))
        have HRC2 := Kept.mk (HRC.out.below hbb)
        clear hbb
        go_wp2
        go_roundw
        case rel => exact ⟨k + 1, by go_num, by omega, HJ2, HRC2⟩
        case measure => simp [intOf]; omega
    · obtain rfl : k = 7 := by omega
      have hcm := cmd_none HCR.out HJ.out r
      have HCM := Kept.mk hcm
      obtain ⟨d0, d1, d2, d3, f0, _⟩ := HRC.out.cells
      clear hcm
      have hz4 := set4 (.int .u8 0) (.string ⟨#[]⟩) (.int .i64 0) (.slice none 0 0) HRC.out.1
      have r0 := cell_of_row _ w.heap.size 0 _ _ _ hz4
      have r1 := cell_of_row _ w.heap.size 1 _ _ _ hz4
      have r2 := cell_of_row _ w.heap.size 2 _ _ _ hz4
      have r3 := cell_of_row _ w.heap.size 3 _ _ _ hz4
      have HRR := Kept.mk (And.intro r0 (And.intro r1 (And.intro r2 r3)))
      clear hz4 r0 r1 r2 r3
      go_wp2
      obtain ⟨r0, r1, r2, r3⟩ := HRR.out
      refine bodyPost_ret (v := .tuple #[cmdV 0 [] 0 (.slice none 0 0), .bool false]) (by simp [results, Tryz.results35, go_sem, cmdV, r0, r1, r2, r3]) rfl ?_
      rw [HCM.out]
      exact ⟨((((HRC.out.2.setCell (p := ⟨w.heap.size, 0, none⟩) (Nat.le_refl _) _).setCell (p := ⟨w.heap.size, 1, none⟩) (Nat.le_refl _) _).setCell (p := ⟨w.heap.size, 2, none⟩) (Nat.le_refl _) _).setCell (p := ⟨w.heap.size, 3, none⟩) (Nat.le_refl _) _), 0, [], 0, none, 0, 0, rfl⟩
end Go.Proofs.YtakccaldcolbmaaGreatDoor.Wln
