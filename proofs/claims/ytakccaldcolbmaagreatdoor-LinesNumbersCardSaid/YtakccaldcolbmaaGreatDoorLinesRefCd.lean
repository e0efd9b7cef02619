/- The walk over the document's command and Command (chapter 31). -/
import Derived.Test.YtakccaldcolbmaaGreatDoorLinesRefCr
import Derived.Test.YtakccaldcolbmaaGreatDoorLinesRefT
import Derived.Test.YtakccaldcolbmaaGreatDoorLinesTx
namespace Go.Proofs.YtakccaldcolbmaaGreatDoor.Wln
open Go Go.RowKit Go.Proofs.YtakccaldcolbmaaGreatDoor.Kb

theorem eqf {x y : List UInt8} (h : ¬ x = y) : (x == y) = false := by simpa using h
theorem reftext_any (s : ByteArray) (w : World) (hs : s.size ≤ 1000000) : Calls Tryz.prog 95 #[.string s] w (TextIs w (Pln.textL s.data.toList)) := by
  have hl := size_len s
  by_cases h2 : 2 ≤ s.size
  · have hx := byte_get s 0 (by omega)
    by_cases h34 : s[0].toNat = 34
    · have hc : s[0] = 34 := UInt8.toNat_inj.1 (by rw [h34]; rfl)
      rw [hc] at hx
      cases hL : s.data.toList with
      | nil => rw [hL] at hx; cases hx
      | cons c r =>
        rw [hL] at hx hl
        obtain rfl : c = 34 := by simpa using hx
        have hr : r ≠ [] := by intro e; rw [e] at hl; simp at hl; omega
        rw [Pln.textL_cons, if_pos ⟨rfl, hr⟩]
        refine (reftext_in s (s.extract 1 (s.size - 1)) r.dropLast w hs h2 h34 rfl ?_).mono fun e w' ⟨h1, h2⟩ => ⟨h2, h1⟩
        rw [extract_drop, hL]
        show (r.take (s.size - 1 - 1)) = _
        rw [List.dropLast_eq_take]
        congr 1
        simp at hl
        omega
    · have hn : Pln.textL s.data.toList = none := by
        cases hL : s.data.toList with
        | nil => rfl
        | cons c r =>
          rw [hL] at hx
          rw [Pln.textL_cons, if_neg]
          intro e
          apply h34
          have : c = s[0] := by simpa using hx
          rw [← this, e.1]
          rfl
      rw [hn]
      have a1 : ¬ (s.size : Int) < 2 := by omega
      have a2 : (0 : Int) < (s.size : Int) := by omega
      have a3 : (((s[0].toNat : Nat) : Int) != 34) = true := by simp; omega
      clear hn hx
      go_enter Tryz.func95, Tryz.ntmps95
      go_wp2
      go_ret2
      exact ⟨Below.refl _ _, rfl⟩
  · have hn : Pln.textL s.data.toList = none := by
      cases hL : s.data.toList with
      | nil => rfl
      | cons c r =>
        rw [hL] at hl
        rw [Pln.textL_cons, if_neg]
        intro e
        have := List.length_pos_iff.2 e.2
        simp at hl
        omega
    rw [hn]
    have a1 : (s.size : Int) < 2 := by omega
    clear hn
    go_enter Tryz.func95, Tryz.ntmps95
    go_wp2
    go_ret2
    exact ⟨Below.refl _ _, rfl⟩
/-- the result's block and the command's, the text read -/
theorem one_done {w W : World} {C : Nat} {k n : Int} {t : List UInt8} (h1 : W.heap[w.heap.size]? = some (.cells #[.int .u8 0, .string ⟨#[]⟩, .int .i64 0, .slice none 0 0] 40 (0, 0))) (hb : Below w.heap.size w W) (hC : w.heap.size < C) :
    ((((((W.setCell ⟨C, 1, none⟩ (.string ⟨t.toArray⟩)).setCell ⟨w.heap.size, 0, none⟩ (.int .u8 k)).setCell ⟨w.heap.size, 1, none⟩ (.string ⟨t.toArray⟩)).setCell ⟨w.heap.size, 2, none⟩ (.int .i64 n)).setCell ⟨w.heap.size, 3, none⟩ (.slice none 0 0)).heap[w.heap.size]? = some (.cells #[.int .u8 k, .string ⟨t.toArray⟩, .int .i64 n, .slice none 0 0] 40 (0, 0)))
    ∧ Below w.heap.size w (((((W.setCell ⟨C, 1, none⟩ (.string ⟨t.toArray⟩)).setCell ⟨w.heap.size, 0, none⟩ (.int .u8 k)).setCell ⟨w.heap.size, 1, none⟩ (.string ⟨t.toArray⟩)).setCell ⟨w.heap.size, 2, none⟩ (.int .i64 n)).setCell ⟨w.heap.size, 3, none⟩ (.slice none 0 0)) := by
  refine ⟨set4 _ _ _ _ ((Below.heap_setCell _ _ _ _ (by show w.heap.size ≠ C; omega)).trans h1), ?_⟩
  exact (((((hb.setCell (p := ⟨C, 1, none⟩) (by show w.heap.size ≤ C; omega) _).setCell (p := ⟨w.heap.size, 0, none⟩) (Nat.le_refl _) _).setCell (p := ⟨w.heap.size, 1, none⟩) (Nat.le_refl _) _).setCell (p := ⟨w.heap.size, 2, none⟩) (Nat.le_refl _) _).setCell (p := ⟨w.heap.size, 3, none⟩) (Nat.le_refl _) _)
set_option maxRecDepth 100000 in
set_option maxHeartbeats 16000000 in
theorem refcommand_cons (g off c : Nat) (x : List UInt8) (r : List (List UInt8)) (w : World) (hr : RdS w (some ⟨g, off, none⟩) (x :: r)) (hc : r.length + 1 ≤ c) (hL : r.length + 1 ≤ 65536) (hsz : ∀ y ∈ x :: r, y.length ≤ 65536) :
    Calls Tryz.prog 60 #[.slice (some ⟨g, off, none⟩) (r.length + 1) c] w (CmdIs w (Pln.cmdL (x :: r))) := by
  obtain ⟨g', off', eA, hx0⟩ := hr 0 x rfl
  cases eA
  rw [Nat.add_zero] at hx0
  have hgw := cell_lt hx0
  have b0 : (((r.length : Int) + 1) == 0) = false := by simp; omega
  have hR : Kept (RdS w (some ⟨g, off, none⟩) (x :: r)) := ⟨hr⟩
  have hS := Kept.mk hsz
  clear hr hsz
  by_cases eCrash : x = Pln.wCrash
  · have hcm : Pln.cmdL (x :: r) = Pln.crashL r := by rw [Pln.cmdL_cons, if_pos eCrash]
    rw [hcm]
    have qCrash : (x == [99, 114, 97, 115, 104]) = true := by rw [eCrash]; decide
    have qLoad : (x == [108, 111, 97, 100]) = false := by rw [eCrash]; decide
    have qQuery : (x == [113, 117, 101, 114, 121]) = false := by rw [eCrash]; decide
    have qScan : (x == [115, 99, 97, 110]) = false := by rw [eCrash]; decide
    have qUpdate : (x == [117, 112, 100, 97, 116, 101]) = false := by rw [eCrash]; decide
    have qPoint : (x == [112, 111, 105, 110, 116]) = false := by rw [eCrash]; decide
    have qDump : (x == [100, 117, 109, 112]) = false := by rw [eCrash]; decide
    have qOpen : (x == [111, 112, 101, 110]) = false := by rw [eCrash]; decide
    clear hcm eCrash
    have hB0 : Below w.heap.size w (w.alloc (.cells #[.int .u8 0, .string ⟨#[]⟩, .int .i64 0, .slice none 0 0] 40)) := (Below.refl _ _).alloc (Nat.le_refl _) _
    have hn0 := World.alloc_heap_new w (.cells #[.int .u8 0, .string ⟨#[]⟩, .int .i64 0, .slice none 0 0] 40)
    have HB0 := Kept.mk (And.intro hB0 hn0)
    have l1 : (1 : Int) ≤ (r.length : Int) + 1 := by omega
    have l2 : (0 : Int) ≤ (c : Int) - 1 := by omega
    by_cases hc1 : c = 1
    · subst hc1
      have hrn : r = [] := by cases r with | nil => rfl | cons _ _ => simp at hc
      subst hrn
      have cC := refcrash_any (some ⟨g, off, none⟩) 0 [] (w.alloc (.cells #[.int .u8 0, .string ⟨#[]⟩, .int .i64 0, .slice none 0 0] 40)) (fun i y h => by cases h) (Nat.le_refl _) (by simp) (fun y h => by cases h)
      have CC := Kept.mk cC
      clear cC hB0 hn0
      go_enter Tryz.func60, Tryz.ntmps60
      go_wp2_with (go_at_call 94; refine CC.out.mono ?_; rintro e w5 ⟨hb5, he⟩; obtain ⟨k', t', n', A', m', c', rfl⟩ : ∃ k' t' n' A' m' c', e = .returned (.tuple #[.agg #[.int .u8 k', .string ⟨t'⟩, .int .i64 n', .slice A' m' c'], .bool false]) := (by obtain ⟨k, t, n, A, m, c, h⟩ := he; exact ⟨k, _, n, A, m, c, h⟩); have hr5 := (hb5.block _ (Array.getElem?_eq_some_iff.1 HB0.out.2).1).trans HB0.out.2; have d0 := cell_of_row w5 w.heap.size 0 _ _ _ hr5; have d1 := cell_of_row w5 w.heap.size 1 _ _ _ hr5; have d2 := cell_of_row w5 w.heap.size 2 _ _ _ hr5; have d3 := cell_of_row w5 w.heap.size 3 _ _ _ hr5; have f0 := (fun i => frozen_of_row w5 w.heap.size i hr5); have H5 := Kept.mk (And.intro hb5 hr5); clear hb5 hr5 he)
      have hz4 := set4 (.int .u8 k') (.string ⟨t'⟩) (.int .i64 n') (.slice A' m' c') H5.out.2
      have r0 := cell_of_row _ w.heap.size 0 _ _ _ hz4
      have r1 := cell_of_row _ w.heap.size 1 _ _ _ hz4
      have r2 := cell_of_row _ w.heap.size 2 _ _ _ hz4
      have r3 := cell_of_row _ w.heap.size 3 _ _ _ hz4
      refine bodyPost_ret (v := .tuple #[.agg #[.int .u8 k', .string ⟨t'⟩, .int .i64 n', .slice A' m' c'], .bool false]) (by simp [results, Tryz.results60, go_sem, r0, r1, r2, r3]) rfl ?_
      have hbb := HB0.out.1.trans (H5.out.1.mono HB0.out.1.size)
      exact ⟨((((hbb.setCell (p := ⟨w.heap.size, 0, none⟩) (Nat.le_refl _) _).setCell (p := ⟨w.heap.size, 1, none⟩) (Nat.le_refl _) _).setCell (p := ⟨w.heap.size, 2, none⟩) (Nat.le_refl _) _).setCell (p := ⟨w.heap.size, 3, none⟩) (Nat.le_refl _) _), k', t'.toList, n', A', m', c', by simp [cmdV]⟩
    · have cC := refcrash_any (some ⟨g, off + 1, none⟩) (c - 1) r (w.alloc (.cells #[.int .u8 0, .string ⟨#[]⟩, .int .i64 0, .slice none 0 0] 40)) (hR.out.tail.below hB0) (by omega) (by omega) (fun y h => hS.out y (List.mem_cons_of_mem x h))
      cases hcr : Pln.crashL r with
      | none =>
        rw [hcr] at cC
        have CC := Kept.mk cC
        clear cC hB0 hn0 hcr
        go_enter Tryz.func60, Tryz.ntmps60
        go_wp2_with (go_at_call 94; refine CC.out.mono ?_; rintro e w5 ⟨hb5, k', t', n', A', m', c', rfl⟩; have hr5 := (hb5.block _ (Array.getElem?_eq_some_iff.1 HB0.out.2).1).trans HB0.out.2; have d0 := cell_of_row w5 w.heap.size 0 _ _ _ hr5; have d1 := cell_of_row w5 w.heap.size 1 _ _ _ hr5; have d2 := cell_of_row w5 w.heap.size 2 _ _ _ hr5; have d3 := cell_of_row w5 w.heap.size 3 _ _ _ hr5; have f0 := (fun i => frozen_of_row w5 w.heap.size i hr5); have H5 := Kept.mk (And.intro hb5 hr5); clear hb5 hr5; simp only [cmdV])
        have hz4 := set4 (.int .u8 k') (.string ⟨t'.toArray⟩) (.int .i64 n') (.slice A' m' c') H5.out.2
        have r0 := cell_of_row _ w.heap.size 0 _ _ _ hz4
        have r1 := cell_of_row _ w.heap.size 1 _ _ _ hz4
        have r2 := cell_of_row _ w.heap.size 2 _ _ _ hz4
        have r3 := cell_of_row _ w.heap.size 3 _ _ _ hz4
        refine bodyPost_ret (v := .tuple #[cmdV k' t' n' (.slice A' m' c'), .bool false]) (by simp [results, Tryz.results60, go_sem, cmdV, r0, r1, r2, r3]) rfl ?_
        have hbb := HB0.out.1.trans (H5.out.1.mono HB0.out.1.size)
        exact ⟨((((hbb.setCell (p := ⟨w.heap.size, 0, none⟩) (Nat.le_refl _) _).setCell (p := ⟨w.heap.size, 1, none⟩) (Nat.le_refl _) _).setCell (p := ⟨w.heap.size, 2, none⟩) (Nat.le_refl _) _).setCell (p := ⟨w.heap.size, 3, none⟩) (Nat.le_refl _) _), k', t', n', A', m', c', rfl⟩
      | some cm =>
        obtain ⟨k', t', n', F'⟩ := cm
        rw [hcr] at cC
        have CC := Kept.mk cC
        clear cC hB0 hn0 hcr
        go_enter Tryz.func60, Tryz.ntmps60
        go_wp2_with (go_at_call 94; refine CC.out.mono ?_; rintro e w5 ⟨hb5, A', c', rfl, hF⟩; have hr5 := (hb5.block _ (Array.getElem?_eq_some_iff.1 HB0.out.2).1).trans HB0.out.2; have d0 := cell_of_row w5 w.heap.size 0 _ _ _ hr5; have d1 := cell_of_row w5 w.heap.size 1 _ _ _ hr5; have d2 := cell_of_row w5 w.heap.size 2 _ _ _ hr5; have d3 := cell_of_row w5 w.heap.size 3 _ _ _ hr5; have f0 := (fun i => frozen_of_row w5 w.heap.size i hr5); have H5 := Kept.mk (And.intro hb5 hr5); have HF5 := Kept.mk hF; clear hb5 hr5 hF; simp only [cmdV])
        have hz4 := set4 (.int .u8 (k' : Int)) (.string ⟨t'.toArray⟩) (.int .i64 n') (.slice A' F'.length c') H5.out.2
        have r0 := cell_of_row _ w.heap.size 0 _ _ _ hz4
        have r1 := cell_of_row _ w.heap.size 1 _ _ _ hz4
        have r2 := cell_of_row _ w.heap.size 2 _ _ _ hz4
        have r3 := cell_of_row _ w.heap.size 3 _ _ _ hz4
        refine bodyPost_ret (v := .tuple #[cmdV k' t' n' (.slice A' F'.length c'), .bool true]) (by simp [results, Tryz.results60, go_sem, cmdV, r0, r1, r2, r3]) rfl ?_
        have hbb := HB0.out.1.trans (H5.out.1.mono HB0.out.1.size)
        refine ⟨((((hbb.setCell (p := ⟨w.heap.size, 0, none⟩) (Nat.le_refl _) _).setCell (p := ⟨w.heap.size, 1, none⟩) (Nat.le_refl _) _).setCell (p := ⟨w.heap.size, 2, none⟩) (Nat.le_refl _) _).setCell (p := ⟨w.heap.size, 3, none⟩) (Nat.le_refl _) _), A', c', rfl, ?_⟩
        refine own_base (own_far HF5.out fun g hg hlt => ?_) HB0.out.1.size
        rw [World.size_alloc] at hg
        rw [Below.heap_setCell _ _ _ _ (by show g ≠ w.heap.size; omega), Below.heap_setCell _ _ _ _ (by show g ≠ w.heap.size; omega), Below.heap_setCell _ _ _ _ (by show g ≠ w.heap.size; omega), Below.heap_setCell _ _ _ _ (by show g ≠ w.heap.size; omega)]
  by_cases eLoad : x = Pln.wLoad
  · have hcm : Pln.cmdL (x :: r) = Pln.oneL 1 0 r := by rw [Pln.cmdL_cons, if_neg eCrash, if_pos eLoad]
    rw [hcm]
    have qCrash : (x == [99, 114, 97, 115, 104]) = false := by rw [eLoad]; decide
    have qLoad : (x == [108, 111, 97, 100]) = true := by rw [eLoad]; decide
    have qQuery : (x == [113, 117, 101, 114, 121]) = false := by rw [eLoad]; decide
    have qScan : (x == [115, 99, 97, 110]) = false := by rw [eLoad]; decide
    have qUpdate : (x == [117, 112, 100, 97, 116, 101]) = false := by rw [eLoad]; decide
    have qPoint : (x == [112, 111, 105, 110, 116]) = false := by rw [eLoad]; decide
    have qDump : (x == [100, 117, 109, 112]) = false := by rw [eLoad]; decide
    have qOpen : (x == [111, 112, 101, 110]) = false := by rw [eLoad]; decide
    clear hcm eLoad
    by_cases h1 : r.length = 1
    · obtain ⟨y, rfl⟩ : ∃ y, r = [y] := by
        cases r with
        | nil => cases h1
        | cons y t =>
          have : t = [] := List.length_eq_zero_iff.1 (by simpa using h1)
          exact ⟨y, by rw [this]⟩
      obtain ⟨g', off', eA, hy0⟩ := hR.out 1 y rfl
      cases eA
      have hys : y.length ≤ 65536 := hS.out y (by simp)
      have cT := fun wx => reftext_any ⟨y.toArray⟩ wx (by rw [Lib.size_mk]; omega)
      rw [show Pln.oneL 1 0 [y] = (Pln.textL y).map fun t => (1, t, 0, []) from rfl]
      have cT : ∀ wx, Calls Tryz.prog 95 #[.string ⟨y.toArray⟩] wx (TextIs wx (Pln.textL y)) := cT
      have hB0 : Below w.heap.size w ((w.alloc (.cells #[.int .u8 0, .string ⟨#[]⟩, .int .i64 0, .slice none 0 0] 40)).alloc (.cells #[.int .u8 1, .string ⟨#[]⟩, .int .i64 0, .slice none 0 0] 40)) := ((Below.refl _ _).alloc (Nat.le_refl _) _).alloc (by simp) _
      have hn0 : ((w.alloc (.cells #[.int .u8 0, .string ⟨#[]⟩, .int .i64 0, .slice none 0 0] 40)).alloc (.cells #[.int .u8 1, .string ⟨#[]⟩, .int .i64 0, .slice none 0 0] 40)).heap[w.heap.size]? = some (.cells #[.int .u8 0, .string ⟨#[]⟩, .int .i64 0, .slice none 0 0] 40 (0, 0)) := (Below.heap_alloc _ _ _ (by simp)).trans (World.alloc_heap_new w _)
      have hn1 : ((w.alloc (.cells #[.int .u8 0, .string ⟨#[]⟩, .int .i64 0, .slice none 0 0] 40)).alloc (.cells #[.int .u8 1, .string ⟨#[]⟩, .int .i64 0, .slice none 0 0] 40)).heap[w.heap.size + 1]? = some (.cells #[.int .u8 1, .string ⟨#[]⟩, .int .i64 0, .slice none 0 0] 40 (0, 0)) := by
        have := World.alloc_heap_new (w.alloc (.cells #[.int .u8 0, .string ⟨#[]⟩, .int .i64 0, .slice none 0 0] 40)) (.cells #[.int .u8 1, .string ⟨#[]⟩, .int .i64 0, .slice none 0 0] 40)
        rwa [World.size_alloc] at this
      have HB0 := Kept.mk (And.intro hB0 (And.intro hn0 hn1))
      clear hB0 hn0 hn1 h1 hys
      cases htx : Pln.textL y with
      | none =>
        rw [htx] at cT
        have CT := Kept.mk cT
        clear cT htx
        go_enter Tryz.func60, Tryz.ntmps60
        go_wp2_with (go_at_call 95; refine (CT.out _).mono ?_; rintro e w5 ⟨hb5, rfl⟩; have hr5 := (hb5.block _ (Array.getElem?_eq_some_iff.1 HB0.out.2.1).1).trans HB0.out.2.1; have hc5 := (hb5.block _ (Array.getElem?_eq_some_iff.1 HB0.out.2.2).1).trans HB0.out.2.2; have d0 := cell_of_row w5 w.heap.size 0 _ _ _ hr5; have d1 := cell_of_row w5 w.heap.size 1 _ _ _ hr5; have d2 := cell_of_row w5 w.heap.size 2 _ _ _ hr5; have d3 := cell_of_row w5 w.heap.size 3 _ _ _ hr5; have f0 := (fun i => frozen_of_row w5 w.heap.size i hr5); have c0 := cell_of_row w5 (w.heap.size + 1) 0 _ _ _ hc5; have c1 := cell_of_row w5 (w.heap.size + 1) 1 _ _ _ hc5; have c2 := cell_of_row w5 (w.heap.size + 1) 2 _ _ _ hc5; have c3 := cell_of_row w5 (w.heap.size + 1) 3 _ _ _ hc5; have f1 := (fun i => frozen_of_row w5 (w.heap.size + 1) i hc5); have H5 := Kept.mk (And.intro hb5 hr5); clear hb5 hr5 hc5)
        have hz := one_done (w := w) (C := w.heap.size + 1) (k := 1) (n := 0) (t := []) H5.out.2 (HB0.out.1.trans (H5.out.1.mono HB0.out.1.size)) (by omega)
        have r0 := cell_of_row _ w.heap.size 0 _ _ _ hz.1
        have r1 := cell_of_row _ w.heap.size 1 _ _ _ hz.1
        have r2 := cell_of_row _ w.heap.size 2 _ _ _ hz.1
        have r3 := cell_of_row _ w.heap.size 3 _ _ _ hz.1
        refine bodyPost_ret (v := .tuple #[cmdV 1 [] 0 (.slice none 0 0), .bool false]) (by simp [results, Tryz.results60, go_sem, cmdV, r0, r1, r2, r3]) rfl ?_
        exact ⟨hz.2, 1, [], 0, none, 0, 0, rfl⟩
      | some t =>
        rw [htx] at cT
        have CT := Kept.mk cT
        clear cT htx
        go_enter Tryz.func60, Tryz.ntmps60
        go_wp2_with (go_at_call 95; refine (CT.out _).mono ?_; rintro e w5 ⟨hb5, rfl⟩; have hr5 := (hb5.block _ (Array.getElem?_eq_some_iff.1 HB0.out.2.1).1).trans HB0.out.2.1; have hc5 := (hb5.block _ (Array.getElem?_eq_some_iff.1 HB0.out.2.2).1).trans HB0.out.2.2; have d0 := cell_of_row w5 w.heap.size 0 _ _ _ hr5; have d1 := cell_of_row w5 w.heap.size 1 _ _ _ hr5; have d2 := cell_of_row w5 w.heap.size 2 _ _ _ hr5; have d3 := cell_of_row w5 w.heap.size 3 _ _ _ hr5; have f0 := (fun i => frozen_of_row w5 w.heap.size i hr5); have c0 := cell_of_row w5 (w.heap.size + 1) 0 _ _ _ hc5; have c1 := cell_of_row w5 (w.heap.size + 1) 1 _ _ _ hc5; have c2 := cell_of_row w5 (w.heap.size + 1) 2 _ _ _ hc5; have c3 := cell_of_row w5 (w.heap.size + 1) 3 _ _ _ hc5; have f1 := (fun i => frozen_of_row w5 (w.heap.size + 1) i hc5); have H5 := Kept.mk (And.intro hb5 hr5); clear hb5 hr5 hc5)
        have hz := one_done (w := w) (C := w.heap.size + 1) (k := 1) (n := 0) (t := t) H5.out.2 (HB0.out.1.trans (H5.out.1.mono HB0.out.1.size)) (by omega)
        have r0 := cell_of_row _ w.heap.size 0 _ _ _ hz.1
        have r1 := cell_of_row _ w.heap.size 1 _ _ _ hz.1
        have r2 := cell_of_row _ w.heap.size 2 _ _ _ hz.1
        have r3 := cell_of_row _ w.heap.size 3 _ _ _ hz.1
        refine bodyPost_ret (v := .tuple #[cmdV 1 t 0 (.slice none 0 0), .bool true]) (by simp [results, Tryz.results60, go_sem, cmdV, r0, r1, r2, r3]) rfl ?_
        exact ⟨hz.2, none, 0, rfl, World.ownsRow_nil _ _ _ _⟩
    · have hcm : Pln.oneL 1 0 r = none := by
        cases r with
        | nil => rfl
        | cons y t =>
          cases t with
          | nil => exact absurd rfl h1
          | cons _ _ => rfl
      rw [hcm]
      have b2 : (((r.length : Int) + 1) != 2) = true := by simp; omega
      clear hcm h1
      go_enter Tryz.func60, Tryz.ntmps60
      go_wp2
      refine bodyPost_ret (v := .tuple #[cmdV 1 [] 0 (.slice none 0 0), .bool false]) (by simp [results, Tryz.results60, go_sem, cmdV]) rfl ⟨?_, 1, [], 0, none, 0, 0, rfl⟩
      exact ((Below.refl _ _).alloc (Nat.le_refl _) _).alloc (by simp) _
  by_cases eQuery : x = Pln.wQuery
  · have hcm : Pln.cmdL (x :: r) = Pln.oneL 2 1 r := by rw [Pln.cmdL_cons, if_neg eCrash, if_neg eLoad, if_pos eQuery]
    rw [hcm]
    have qCrash : (x == [99, 114, 97, 115, 104]) = false := by rw [eQuery]; decide
    have qLoad : (x == [108, 111, 97, 100]) = false := by rw [eQuery]; decide
    have qQuery : (x == [113, 117, 101, 114, 121]) = true := by rw [eQuery]; decide
    have qScan : (x == [115, 99, 97, 110]) = false := by rw [eQuery]; decide
    have qUpdate : (x == [117, 112, 100, 97, 116, 101]) = false := by rw [eQuery]; decide
    have qPoint : (x == [112, 111, 105, 110, 116]) = false := by rw [eQuery]; decide
    have qDump : (x == [100, 117, 109, 112]) = false := by rw [eQuery]; decide
    have qOpen : (x == [111, 112, 101, 110]) = false := by rw [eQuery]; decide
    clear hcm eQuery
    by_cases h1 : r.length = 1
    · obtain ⟨y, rfl⟩ : ∃ y, r = [y] := by
        cases r with
        | nil => cases h1
        | cons y t =>
          have : t = [] := List.length_eq_zero_iff.1 (by simpa using h1)
          exact ⟨y, by rw [this]⟩
      obtain ⟨g', off', eA, hy0⟩ := hR.out 1 y rfl
      cases eA
      have hys : y.length ≤ 65536 := hS.out y (by simp)
      have cT := fun wx => reftext_any ⟨y.toArray⟩ wx (by rw [Lib.size_mk]; omega)
      rw [show Pln.oneL 2 1 [y] = (Pln.textL y).map fun t => (2, t, 1, []) from rfl]
      have cT : ∀ wx, Calls Tryz.prog 95 #[.string ⟨y.toArray⟩] wx (TextIs wx (Pln.textL y)) := cT
      have hB0 : Below w.heap.size w ((w.alloc (.cells #[.int .u8 0, .string ⟨#[]⟩, .int .i64 0, .slice none 0 0] 40)).alloc (.cells #[.int .u8 2, .string ⟨#[]⟩, .int .i64 1, .slice none 0 0] 40)) := ((Below.refl _ _).alloc (Nat.le_refl _) _).alloc (by simp) _
      have hn0 : ((w.alloc (.cells #[.int .u8 0, .string ⟨#[]⟩, .int .i64 0, .slice none 0 0] 40)).alloc (.cells #[.int .u8 2, .string ⟨#[]⟩, .int .i64 1, .slice none 0 0] 40)).heap[w.heap.size]? = some (.cells #[.int .u8 0, .string ⟨#[]⟩, .int .i64 0, .slice none 0 0] 40 (0, 0)) := (Below.heap_alloc _ _ _ (by simp)).trans (World.alloc_heap_new w _)
      have hn1 : ((w.alloc (.cells #[.int .u8 0, .string ⟨#[]⟩, .int .i64 0, .slice none 0 0] 40)).alloc (.cells #[.int .u8 2, .string ⟨#[]⟩, .int .i64 1, .slice none 0 0] 40)).heap[w.heap.size + 1]? = some (.cells #[.int .u8 2, .string ⟨#[]⟩, .int .i64 1, .slice none 0 0] 40 (0, 0)) := by
        have := World.alloc_heap_new (w.alloc (.cells #[.int .u8 0, .string ⟨#[]⟩, .int .i64 0, .slice none 0 0] 40)) (.cells #[.int .u8 2, .string ⟨#[]⟩, .int .i64 1, .slice none 0 0] 40)
        rwa [World.size_alloc] at this
      have HB0 := Kept.mk (And.intro hB0 (And.intro hn0 hn1))
      clear hB0 hn0 hn1 h1 hys
      cases htx : Pln.textL y with
      | none =>
        rw [htx] at cT
        have CT := Kept.mk cT
        clear cT htx
        go_enter Tryz.func60, Tryz.ntmps60
        go_wp2_with (go_at_call 95; refine (CT.out _).mono ?_; rintro e w5 ⟨hb5, rfl⟩; have hr5 := (hb5.block _ (Array.getElem?_eq_some_iff.1 HB0.out.2.1).1).trans HB0.out.2.1; have hc5 := (hb5.block _ (Array.getElem?_eq_some_iff.1 HB0.out.2.2).1).trans HB0.out.2.2; have d0 := cell_of_row w5 w.heap.size 0 _ _ _ hr5; have d1 := cell_of_row w5 w.heap.size 1 _ _ _ hr5; have d2 := cell_of_row w5 w.heap.size 2 _ _ _ hr5; have d3 := cell_of_row w5 w.heap.size 3 _ _ _ hr5; have f0 := (fun i => frozen_of_row w5 w.heap.size i hr5); have c0 := cell_of_row w5 (w.heap.size + 1) 0 _ _ _ hc5; have c1 := cell_of_row w5 (w.heap.size + 1) 1 _ _ _ hc5; have c2 := cell_of_row w5 (w.heap.size + 1) 2 _ _ _ hc5; have c3 := cell_of_row w5 (w.heap.size + 1) 3 _ _ _ hc5; have f1 := (fun i => frozen_of_row w5 (w.heap.size + 1) i hc5); have H5 := Kept.mk (And.intro hb5 hr5); clear hb5 hr5 hc5)
        have hz := one_done (w := w) (C := w.heap.size + 1) (k := 2) (n := 1) (t := []) H5.out.2 (HB0.out.1.trans (H5.out.1.mono HB0.out.1.size)) (by omega)
        have r0 := cell_of_row _ w.heap.size 0 _ _ _ hz.1
        have r1 := cell_of_row _ w.heap.size 1 _ _ _ hz.1
        have r2 := cell_of_row _ w.heap.size 2 _ _ _ hz.1
        have r3 := cell_of_row _ w.heap.size 3 _ _ _ hz.1
        refine bodyPost_ret (v := .tuple #[cmdV 2 [] 1 (.slice none 0 0), .bool false]) (by simp [results, Tryz.results60, go_sem, cmdV, r0, r1, r2, r3]) rfl ?_
        exact ⟨hz.2, 2, [], 1, none, 0, 0, rfl⟩
      | some t =>
        rw [htx] at cT
        have CT := Kept.mk cT
        clear cT htx
        go_enter Tryz.func60, Tryz.ntmps60
        go_wp2_with (go_at_call 95; refine (CT.out _).mono ?_; rintro e w5 ⟨hb5, rfl⟩; have hr5 := (hb5.block _ (Array.getElem?_eq_some_iff.1 HB0.out.2.1).1).trans HB0.out.2.1; have hc5 := (hb5.block _ (Array.getElem?_eq_some_iff.1 HB0.out.2.2).1).trans HB0.out.2.2; have d0 := cell_of_row w5 w.heap.size 0 _ _ _ hr5; have d1 := cell_of_row w5 w.heap.size 1 _ _ _ hr5; have d2 := cell_of_row w5 w.heap.size 2 _ _ _ hr5; have d3 := cell_of_row w5 w.heap.size 3 _ _ _ hr5; have f0 := (fun i => frozen_of_row w5 w.heap.size i hr5); have c0 := cell_of_row w5 (w.heap.size + 1) 0 _ _ _ hc5; have c1 := cell_of_row w5 (w.heap.size + 1) 1 _ _ _ hc5; have c2 := cell_of_row w5 (w.heap.size + 1) 2 _ _ _ hc5; have c3 := cell_of_row w5 (w.heap.size + 1) 3 _ _ _ hc5; have f1 := (fun i => frozen_of_row w5 (w.heap.size + 1) i hc5); have H5 := Kept.mk (And.intro hb5 hr5); clear hb5 hr5 hc5)
        have hz := one_done (w := w) (C := w.heap.size + 1) (k := 2) (n := 1) (t := t) H5.out.2 (HB0.out.1.trans (H5.out.1.mono HB0.out.1.size)) (by omega)
        have r0 := cell_of_row _ w.heap.size 0 _ _ _ hz.1
        have r1 := cell_of_row _ w.heap.size 1 _ _ _ hz.1
        have r2 := cell_of_row _ w.heap.size 2 _ _ _ hz.1
        have r3 := cell_of_row _ w.heap.size 3 _ _ _ hz.1
        refine bodyPost_ret (v := .tuple #[cmdV 2 t 1 (.slice none 0 0), .bool true]) (by simp [results, Tryz.results60, go_sem, cmdV, r0, r1, r2, r3]) rfl ?_
        exact ⟨hz.2, none, 0, rfl, World.ownsRow_nil _ _ _ _⟩
    · have hcm : Pln.oneL 2 1 r = none := by
        cases r with
        | nil => rfl
        | cons y t =>
          cases t with
          | nil => exact absurd rfl h1
          | cons _ _ => rfl
      rw [hcm]
      have b2 : (((r.length : Int) + 1) != 2) = true := by simp; omega
      clear hcm h1
      go_enter Tryz.func60, Tryz.ntmps60
      go_wp2
      refine bodyPost_ret (v := .tuple #[cmdV 2 [] 1 (.slice none 0 0), .bool false]) (by simp [results, Tryz.results60, go_sem, cmdV]) rfl ⟨?_, 2, [], 1, none, 0, 0, rfl⟩
      exact ((Below.refl _ _).alloc (Nat.le_refl _) _).alloc (by simp) _
  by_cases eScan : x = Pln.wScan
  · have hcm : Pln.cmdL (x :: r) = Pln.oneL 2 0 r := by rw [Pln.cmdL_cons, if_neg eCrash, if_neg eLoad, if_neg eQuery, if_pos eScan]
    rw [hcm]
    have qCrash : (x == [99, 114, 97, 115, 104]) = false := by rw [eScan]; decide
    have qLoad : (x == [108, 111, 97, 100]) = false := by rw [eScan]; decide
    have qQuery : (x == [113, 117, 101, 114, 121]) = false := by rw [eScan]; decide
    have qScan : (x == [115, 99, 97, 110]) = true := by rw [eScan]; decide
    have qUpdate : (x == [117, 112, 100, 97, 116, 101]) = false := by rw [eScan]; decide
    have qPoint : (x == [112, 111, 105, 110, 116]) = false := by rw [eScan]; decide
    have qDump : (x == [100, 117, 109, 112]) = false := by rw [eScan]; decide
    have qOpen : (x == [111, 112, 101, 110]) = false := by rw [eScan]; decide
    clear hcm eScan
    by_cases h1 : r.length = 1
    · obtain ⟨y, rfl⟩ : ∃ y, r = [y] := by
        cases r with
        | nil => cases h1
        | cons y t =>
          have : t = [] := List.length_eq_zero_iff.1 (by simpa using h1)
          exact ⟨y, by rw [this]⟩
      obtain ⟨g', off', eA, hy0⟩ := hR.out 1 y rfl
      cases eA
      have hys : y.length ≤ 65536 := hS.out y (by simp)
      have cT := fun wx => reftext_any ⟨y.toArray⟩ wx (by rw [Lib.size_mk]; omega)
      rw [show Pln.oneL 2 0 [y] = (Pln.textL y).map fun t => (2, t, 0, []) from rfl]
      have cT : ∀ wx, Calls Tryz.prog 95 #[.string ⟨y.toArray⟩] wx (TextIs wx (Pln.textL y)) := cT
      have hB0 : Below w.heap.size w ((w.alloc (.cells #[.int .u8 0, .string ⟨#[]⟩, .int .i64 0, .slice none 0 0] 40)).alloc (.cells #[.int .u8 2, .string ⟨#[]⟩, .int .i64 0, .slice none 0 0] 40)) := ((Below.refl _ _).alloc (Nat.le_refl _) _).alloc (by simp) _
      have hn0 : ((w.alloc (.cells #[.int .u8 0, .string ⟨#[]⟩, .int .i64 0, .slice none 0 0] 40)).alloc (.cells #[.int .u8 2, .string ⟨#[]⟩, .int .i64 0, .slice none 0 0] 40)).heap[w.heap.size]? = some (.cells #[.int .u8 0, .string ⟨#[]⟩, .int .i64 0, .slice none 0 0] 40 (0, 0)) := (Below.heap_alloc _ _ _ (by simp)).trans (World.alloc_heap_new w _)
      have hn1 : ((w.alloc (.cells #[.int .u8 0, .string ⟨#[]⟩, .int .i64 0, .slice none 0 0] 40)).alloc (.cells #[.int .u8 2, .string ⟨#[]⟩, .int .i64 0, .slice none 0 0] 40)).heap[w.heap.size + 1]? = some (.cells #[.int .u8 2, .string ⟨#[]⟩, .int .i64 0, .slice none 0 0] 40 (0, 0)) := by
        have := World.alloc_heap_new (w.alloc (.cells #[.int .u8 0, .string ⟨#[]⟩, .int .i64 0, .slice none 0 0] 40)) (.cells #[.int .u8 2, .string ⟨#[]⟩, .int .i64 0, .slice none 0 0] 40)
        rwa [World.size_alloc] at this
      have HB0 := Kept.mk (And.intro hB0 (And.intro hn0 hn1))
      clear hB0 hn0 hn1 h1 hys
      cases htx : Pln.textL y with
      | none =>
        rw [htx] at cT
        have CT := Kept.mk cT
        clear cT htx
        go_enter Tryz.func60, Tryz.ntmps60
        go_wp2_with (go_at_call 95; refine (CT.out _).mono ?_; rintro e w5 ⟨hb5, rfl⟩; have hr5 := (hb5.block _ (Array.getElem?_eq_some_iff.1 HB0.out.2.1).1).trans HB0.out.2.1; have hc5 := (hb5.block _ (Array.getElem?_eq_some_iff.1 HB0.out.2.2).1).trans HB0.out.2.2; have d0 := cell_of_row w5 w.heap.size 0 _ _ _ hr5; have d1 := cell_of_row w5 w.heap.size 1 _ _ _ hr5; have d2 := cell_of_row w5 w.heap.size 2 _ _ _ hr5; have d3 := cell_of_row w5 w.heap.size 3 _ _ _ hr5; have f0 := (fun i => frozen_of_row w5 w.heap.size i hr5); have c0 := cell_of_row w5 (w.heap.size + 1) 0 _ _ _ hc5; have c1 := cell_of_row w5 (w.heap.size + 1) 1 _ _ _ hc5; have c2 := cell_of_row w5 (w.heap.size + 1) 2 _ _ _ hc5; have c3 := cell_of_row w5 (w.heap.size + 1) 3 _ _ _ hc5; have f1 := (fun i => frozen_of_row w5 (w.heap.size + 1) i hc5); have H5 := Kept.mk (And.intro hb5 hr5); clear hb5 hr5 hc5)
        have hz := one_done (w := w) (C := w.heap.size + 1) (k := 2) (n := 0) (t := []) H5.out.2 (HB0.out.1.trans (H5.out.1.mono HB0.out.1.size)) (by omega)
        have r0 := cell_of_row _ w.heap.size 0 _ _ _ hz.1
        have r1 := cell_of_row _ w.heap.size 1 _ _ _ hz.1
        have r2 := cell_of_row _ w.heap.size 2 _ _ _ hz.1
        have r3 := cell_of_row _ w.heap.size 3 _ _ _ hz.1
        refine bodyPost_ret (v := .tuple #[cmdV 2 [] 0 (.slice none 0 0), .bool false]) (by simp [results, Tryz.results60, go_sem, cmdV, r0, r1, r2, r3]) rfl ?_
        exact ⟨hz.2, 2, [], 0, none, 0, 0, rfl⟩
      | some t =>
        rw [htx] at cT
        have CT := Kept.mk cT
        clear cT htx
        go_enter Tryz.func60, Tryz.ntmps60
        go_wp2_with (go_at_call 95; refine (CT.out _).mono ?_; rintro e w5 ⟨hb5, rfl⟩; have hr5 := (hb5.block _ (Array.getElem?_eq_some_iff.1 HB0.out.2.1).1).trans HB0.out.2.1; have hc5 := (hb5.block _ (Array.getElem?_eq_some_iff.1 HB0.out.2.2).1).trans HB0.out.2.2; have d0 := cell_of_row w5 w.heap.size 0 _ _ _ hr5; have d1 := cell_of_row w5 w.heap.size 1 _ _ _ hr5; have d2 := cell_of_row w5 w.heap.size 2 _ _ _ hr5; have d3 := cell_of_row w5 w.heap.size 3 _ _ _ hr5; have f0 := (fun i => frozen_of_row w5 w.heap.size i hr5); have c0 := cell_of_row w5 (w.heap.size + 1) 0 _ _ _ hc5; have c1 := cell_of_row w5 (w.heap.size + 1) 1 _ _ _ hc5; have c2 := cell_of_row w5 (w.heap.size + 1) 2 _ _ _ hc5; have c3 := cell_of_row w5 (w.heap.size + 1) 3 _ _ _ hc5; have f1 := (fun i => frozen_of_row w5 (w.heap.size + 1) i hc5); have H5 := Kept.mk (And.intro hb5 hr5); clear hb5 hr5 hc5)
        have hz := one_done (w := w) (C := w.heap.size + 1) (k := 2) (n := 0) (t := t) H5.out.2 (HB0.out.1.trans (H5.out.1.mono HB0.out.1.size)) (by omega)
        have r0 := cell_of_row _ w.heap.size 0 _ _ _ hz.1
        have r1 := cell_of_row _ w.heap.size 1 _ _ _ hz.1
        have r2 := cell_of_row _ w.heap.size 2 _ _ _ hz.1
        have r3 := cell_of_row _ w.heap.size 3 _ _ _ hz.1
        refine bodyPost_ret (v := .tuple #[cmdV 2 t 0 (.slice none 0 0), .bool true]) (by simp [results, Tryz.results60, go_sem, cmdV, r0, r1, r2, r3]) rfl ?_
        exact ⟨hz.2, none, 0, rfl, World.ownsRow_nil _ _ _ _⟩
    · have hcm : Pln.oneL 2 0 r = none := by
        cases r with
        | nil => rfl
        | cons y t =>
          cases t with
          | nil => exact absurd rfl h1
          | cons _ _ => rfl
      rw [hcm]
      have b2 : (((r.length : Int) + 1) != 2) = true := by simp; omega
      clear hcm h1
      go_enter Tryz.func60, Tryz.ntmps60
      go_wp2
      refine bodyPost_ret (v := .tuple #[cmdV 2 [] 0 (.slice none 0 0), .bool false]) (by simp [results, Tryz.results60, go_sem, cmdV]) rfl ⟨?_, 2, [], 0, none, 0, 0, rfl⟩
      exact ((Below.refl _ _).alloc (Nat.le_refl _) _).alloc (by simp) _
  by_cases eUpdate : x = Pln.wUpdate
  · have hcm : Pln.cmdL (x :: r) = Pln.oneL 3 0 r := by rw [Pln.cmdL_cons, if_neg eCrash, if_neg eLoad, if_neg eQuery, if_neg eScan, if_pos eUpdate]
    rw [hcm]
    have qCrash : (x == [99, 114, 97, 115, 104]) = false := by rw [eUpdate]; decide
    have qLoad : (x == [108, 111, 97, 100]) = false := by rw [eUpdate]; decide
    have qQuery : (x == [113, 117, 101, 114, 121]) = false := by rw [eUpdate]; decide
    have qScan : (x == [115, 99, 97, 110]) = false := by rw [eUpdate]; decide
    have qUpdate : (x == [117, 112, 100, 97, 116, 101]) = true := by rw [eUpdate]; decide
    have qPoint : (x == [112, 111, 105, 110, 116]) = false := by rw [eUpdate]; decide
    have qDump : (x == [100, 117, 109, 112]) = false := by rw [eUpdate]; decide
    have qOpen : (x == [111, 112, 101, 110]) = false := by rw [eUpdate]; decide
    clear hcm eUpdate
    by_cases h1 : r.length = 1
    · obtain ⟨y, rfl⟩ : ∃ y, r = [y] := by
        cases r with
        | nil => cases h1
        | cons y t =>
          have : t = [] := List.length_eq_zero_iff.1 (by simpa using h1)
          exact ⟨y, by rw [this]⟩
      obtain ⟨g', off', eA, hy0⟩ := hR.out 1 y rfl
      cases eA
      have hys : y.length ≤ 65536 := hS.out y (by simp)
      have cT := fun wx => reftext_any ⟨y.toArray⟩ wx (by rw [Lib.size_mk]; omega)
      rw [show Pln.oneL 3 0 [y] = (Pln.textL y).map fun t => (3, t, 0, []) from rfl]
      have cT : ∀ wx, Calls Tryz.prog 95 #[.string ⟨y.toArray⟩] wx (TextIs wx (Pln.textL y)) := cT
      have hB0 : Below w.heap.size w ((w.alloc (.cells #[.int .u8 0, .string ⟨#[]⟩, .int .i64 0, .slice none 0 0] 40)).alloc (.cells #[.int .u8 3, .string ⟨#[]⟩, .int .i64 0, .slice none 0 0] 40)) := ((Below.refl _ _).alloc (Nat.le_refl _) _).alloc (by simp) _
      have hn0 : ((w.alloc (.cells #[.int .u8 0, .string ⟨#[]⟩, .int .i64 0, .slice none 0 0] 40)).alloc (.cells #[.int .u8 3, .string ⟨#[]⟩, .int .i64 0, .slice none 0 0] 40)).heap[w.heap.size]? = some (.cells #[.int .u8 0, .string ⟨#[]⟩, .int .i64 0, .slice none 0 0] 40 (0, 0)) := (Below.heap_alloc _ _ _ (by simp)).trans (World.alloc_heap_new w _)
      have hn1 : ((w.alloc (.cells #[.int .u8 0, .string ⟨#[]⟩, .int .i64 0, .slice none 0 0] 40)).alloc (.cells #[.int .u8 3, .string ⟨#[]⟩, .int .i64 0, .slice none 0 0] 40)).heap[w.heap.size + 1]? = some (.cells #[.int .u8 3, .string ⟨#[]⟩, .int .i64 0, .slice none 0 0] 40 (0, 0)) := by
        have := World.alloc_heap_new (w.alloc (.cells #[.int .u8 0, .string ⟨#[]⟩, .int .i64 0, .slice none 0 0] 40)) (.cells #[.int .u8 3, .string ⟨#[]⟩, .int .i64 0, .slice none 0 0] 40)
        rwa [World.size_alloc] at this
      have HB0 := Kept.mk (And.intro hB0 (And.intro hn0 hn1))
      clear hB0 hn0 hn1 h1 hys
      cases htx : Pln.textL y with
      | none =>
        rw [htx] at cT
        have CT := Kept.mk cT
        clear cT htx
        go_enter Tryz.func60, Tryz.ntmps60
        go_wp2_with (go_at_call 95; refine (CT.out _).mono ?_; rintro e w5 ⟨hb5, rfl⟩; have hr5 := (hb5.block _ (Array.getElem?_eq_some_iff.1 HB0.out.2.1).1).trans HB0.out.2.1; have hc5 := (hb5.block _ (Array.getElem?_eq_some_iff.1 HB0.out.2.2).1).trans HB0.out.2.2; have d0 := cell_of_row w5 w.heap.size 0 _ _ _ hr5; have d1 := cell_of_row w5 w.heap.size 1 _ _ _ hr5; have d2 := cell_of_row w5 w.heap.size 2 _ _ _ hr5; have d3 := cell_of_row w5 w.heap.size 3 _ _ _ hr5; have f0 := (fun i => frozen_of_row w5 w.heap.size i hr5); have c0 := cell_of_row w5 (w.heap.size + 1) 0 _ _ _ hc5; have c1 := cell_of_row w5 (w.heap.size + 1) 1 _ _ _ hc5; have c2 := cell_of_row w5 (w.heap.size + 1) 2 _ _ _ hc5; have c3 := cell_of_row w5 (w.heap.size + 1) 3 _ _ _ hc5; have f1 := (fun i => frozen_of_row w5 (w.heap.size + 1) i hc5); have H5 := Kept.mk (And.intro hb5 hr5); clear hb5 hr5 hc5)
        have hz := one_done (w := w) (C := w.heap.size + 1) (k := 3) (n := 0) (t := []) H5.out.2 (HB0.out.1.trans (H5.out.1.mono HB0.out.1.size)) (by omega)
        have r0 := cell_of_row _ w.heap.size 0 _ _ _ hz.1
        have r1 := cell_of_row _ w.heap.size 1 _ _ _ hz.1
        have r2 := cell_of_row _ w.heap.size 2 _ _ _ hz.1
        have r3 := cell_of_row _ w.heap.size 3 _ _ _ hz.1
        refine bodyPost_ret (v := .tuple #[cmdV 3 [] 0 (.slice none 0 0), .bool false]) (by simp [results, Tryz.results60, go_sem, cmdV, r0, r1, r2, r3]) rfl ?_
        exact ⟨hz.2, 3, [], 0, none, 0, 0, rfl⟩
      | some t =>
        rw [htx] at cT
        have CT := Kept.mk cT
        clear cT htx
        go_enter Tryz.func60, Tryz.ntmps60
        go_wp2_with (go_at_call 95; refine (CT.out _).mono ?_; rintro e w5 ⟨hb5, rfl⟩; have hr5 := (hb5.block _ (Array.getElem?_eq_some_iff.1 HB0.out.2.1).1).trans HB0.out.2.1; have hc5 := (hb5.block _ (Array.getElem?_eq_some_iff.1 HB0.out.2.2).1).trans HB0.out.2.2; have d0 := cell_of_row w5 w.heap.size 0 _ _ _ hr5; have d1 := cell_of_row w5 w.heap.size 1 _ _ _ hr5; have d2 := cell_of_row w5 w.heap.size 2 _ _ _ hr5; have d3 := cell_of_row w5 w.heap.size 3 _ _ _ hr5; have f0 := (fun i => frozen_of_row w5 w.heap.size i hr5); have c0 := cell_of_row w5 (w.heap.size + 1) 0 _ _ _ hc5; have c1 := cell_of_row w5 (w.heap.size + 1) 1 _ _ _ hc5; have c2 := cell_of_row w5 (w.heap.size + 1) 2 _ _ _ hc5; have c3 := cell_of_row w5 (w.heap.size + 1) 3 _ _ _ hc5; have f1 := (fun i => frozen_of_row w5 (w.heap.size + 1) i hc5); have H5 := Kept.mk (And.intro hb5 hr5); clear hb5 hr5 hc5)
        have hz := one_done (w := w) (C := w.heap.size + 1) (k := 3) (n := 0) (t := t) H5.out.2 (HB0.out.1.trans (H5.out.1.mono HB0.out.1.size)) (by omega)
        have r0 := cell_of_row _ w.heap.size 0 _ _ _ hz.1
        have r1 := cell_of_row _ w.heap.size 1 _ _ _ hz.1
        have r2 := cell_of_row _ w.heap.size 2 _ _ _ hz.1
        have r3 := cell_of_row _ w.heap.size 3 _ _ _ hz.1
        refine bodyPost_ret (v := .tuple #[cmdV 3 t 0 (.slice none 0 0), .bool true]) (by simp [results, Tryz.results60, go_sem, cmdV, r0, r1, r2, r3]) rfl ?_
        exact ⟨hz.2, none, 0, rfl, World.ownsRow_nil _ _ _ _⟩
    · have hcm : Pln.oneL 3 0 r = none := by
        cases r with
        | nil => rfl
        | cons y t =>
          cases t with
          | nil => exact absurd rfl h1
          | cons _ _ => rfl
      rw [hcm]
      have b2 : (((r.length : Int) + 1) != 2) = true := by simp; omega
      clear hcm h1
      go_enter Tryz.func60, Tryz.ntmps60
      go_wp2
      refine bodyPost_ret (v := .tuple #[cmdV 3 [] 0 (.slice none 0 0), .bool false]) (by simp [results, Tryz.results60, go_sem, cmdV]) rfl ⟨?_, 3, [], 0, none, 0, 0, rfl⟩
      exact ((Below.refl _ _).alloc (Nat.le_refl _) _).alloc (by simp) _
  by_cases ePoint : x = Pln.wPoint
  · have hcm : Pln.cmdL (x :: r) = Pln.bareL 4 r := by rw [Pln.cmdL_cons, if_neg eCrash, if_neg eLoad, if_neg eQuery, if_neg eScan, if_neg eUpdate, if_pos ePoint]
    rw [hcm]
    have qCrash : (x == [99, 114, 97, 115, 104]) = false := by rw [ePoint]; decide
    have qLoad : (x == [108, 111, 97, 100]) = false := by rw [ePoint]; decide
    have qQuery : (x == [113, 117, 101, 114, 121]) = false := by rw [ePoint]; decide
    have qScan : (x == [115, 99, 97, 110]) = false := by rw [ePoint]; decide
    have qUpdate : (x == [117, 112, 100, 97, 116, 101]) = false := by rw [ePoint]; decide
    have qPoint : (x == [112, 111, 105, 110, 116]) = true := by rw [ePoint]; decide
    have qDump : (x == [100, 117, 109, 112]) = false := by rw [ePoint]; decide
    have qOpen : (x == [111, 112, 101, 110]) = false := by rw [ePoint]; decide
    clear hcm ePoint
    cases r with
    | nil =>
      go_enter Tryz.func60, Tryz.ntmps60
      go_wp2
      refine bodyPost_ret (v := .tuple #[cmdV 4 [] 0 (.slice none 0 0), .bool true]) (by simp [results, Tryz.results60, go_sem, cmdV]) rfl ⟨(Below.refl _ _).alloc (Nat.le_refl _) _, none, 0, rfl, World.ownsRow_nil _ _ _ _⟩
    | cons y t =>
      have b1 : ((((y :: t).length : Int) + 1) == 1) = false := by simp; omega
      rw [show Pln.bareL 4 (y :: t) = none from rfl]
      generalize (y :: t).length = nn at b0 b1 hc hL ⊢
      go_enter Tryz.func60, Tryz.ntmps60
      go_wp2
      refine bodyPost_ret (v := .tuple #[cmdV 4 [] 0 (.slice none 0 0), .bool false]) (by simp [results, Tryz.results60, go_sem, cmdV]) rfl ⟨(Below.refl _ _).alloc (Nat.le_refl _) _, 4, [], 0, none, 0, 0, rfl⟩
  by_cases eDump : x = Pln.wDump
  · have hcm : Pln.cmdL (x :: r) = Pln.bareL 5 r := by rw [Pln.cmdL_cons, if_neg eCrash, if_neg eLoad, if_neg eQuery, if_neg eScan, if_neg eUpdate, if_neg ePoint, if_pos eDump]
    rw [hcm]
    have qCrash : (x == [99, 114, 97, 115, 104]) = false := by rw [eDump]; decide
    have qLoad : (x == [108, 111, 97, 100]) = false := by rw [eDump]; decide
    have qQuery : (x == [113, 117, 101, 114, 121]) = false := by rw [eDump]; decide
    have qScan : (x == [115, 99, 97, 110]) = false := by rw [eDump]; decide
    have qUpdate : (x == [117, 112, 100, 97, 116, 101]) = false := by rw [eDump]; decide
    have qPoint : (x == [112, 111, 105, 110, 116]) = false := by rw [eDump]; decide
    have qDump : (x == [100, 117, 109, 112]) = true := by rw [eDump]; decide
    have qOpen : (x == [111, 112, 101, 110]) = false := by rw [eDump]; decide
    clear hcm eDump
    cases r with
    | nil =>
      go_enter Tryz.func60, Tryz.ntmps60
      go_wp2
      refine bodyPost_ret (v := .tuple #[cmdV 5 [] 0 (.slice none 0 0), .bool true]) (by simp [results, Tryz.results60, go_sem, cmdV]) rfl ⟨(Below.refl _ _).alloc (Nat.le_refl _) _, none, 0, rfl, World.ownsRow_nil _ _ _ _⟩
    | cons y t =>
      have b1 : ((((y :: t).length : Int) + 1) == 1) = false := by simp; omega
      rw [show Pln.bareL 5 (y :: t) = none from rfl]
      generalize (y :: t).length = nn at b0 b1 hc hL ⊢
      go_enter Tryz.func60, Tryz.ntmps60
      go_wp2
      refine bodyPost_ret (v := .tuple #[cmdV 5 [] 0 (.slice none 0 0), .bool false]) (by simp [results, Tryz.results60, go_sem, cmdV]) rfl ⟨(Below.refl _ _).alloc (Nat.le_refl _) _, 5, [], 0, none, 0, 0, rfl⟩
  by_cases eOpen : x = Pln.wOpen
  · have hcm : Pln.cmdL (x :: r) = Pln.bareL 7 r := by rw [Pln.cmdL_cons, if_neg eCrash, if_neg eLoad, if_neg eQuery, if_neg eScan, if_neg eUpdate, if_neg ePoint, if_neg eDump, if_pos eOpen]
    rw [hcm]
    have qCrash : (x == [99, 114, 97, 115, 104]) = false := by rw [eOpen]; decide
    have qLoad : (x == [108, 111, 97, 100]) = false := by rw [eOpen]; decide
    have qQuery : (x == [113, 117, 101, 114, 121]) = false := by rw [eOpen]; decide
    have qScan : (x == [115, 99, 97, 110]) = false := by rw [eOpen]; decide
    have qUpdate : (x == [117, 112, 100, 97, 116, 101]) = false := by rw [eOpen]; decide
    have qPoint : (x == [112, 111, 105, 110, 116]) = false := by rw [eOpen]; decide
    have qDump : (x == [100, 117, 109, 112]) = false := by rw [eOpen]; decide
    have qOpen : (x == [111, 112, 101, 110]) = true := by rw [eOpen]; decide
    clear hcm eOpen
    cases r with
    | nil =>
      go_enter Tryz.func60, Tryz.ntmps60
      go_wp2
      refine bodyPost_ret (v := .tuple #[cmdV 7 [] 0 (.slice none 0 0), .bool true]) (by simp [results, Tryz.results60, go_sem, cmdV]) rfl ⟨(Below.refl _ _).alloc (Nat.le_refl _) _, none, 0, rfl, World.ownsRow_nil _ _ _ _⟩
    | cons y t =>
      have b1 : ((((y :: t).length : Int) + 1) == 1) = false := by simp; omega
      rw [show Pln.bareL 7 (y :: t) = none from rfl]
      generalize (y :: t).length = nn at b0 b1 hc hL ⊢
      go_enter Tryz.func60, Tryz.ntmps60
      go_wp2
      refine bodyPost_ret (v := .tuple #[cmdV 7 [] 0 (.slice none 0 0), .bool false]) (by simp [results, Tryz.results60, go_sem, cmdV]) rfl ⟨(Below.refl _ _).alloc (Nat.le_refl _) _, 7, [], 0, none, 0, 0, rfl⟩
  have hcm : Pln.cmdL (x :: r) = none := by rw [Pln.cmdL_cons, if_neg eCrash, if_neg eLoad, if_neg eQuery, if_neg eScan, if_neg eUpdate, if_neg ePoint, if_neg eDump, if_neg eOpen]
  rw [hcm]
  have qCrash : (x == [99, 114, 97, 115, 104]) = false := eqf eCrash
  have qLoad : (x == [108, 111, 97, 100]) = false := eqf eLoad
  have qQuery : (x == [113, 117, 101, 114, 121]) = false := eqf eQuery
  have qScan : (x == [115, 99, 97, 110]) = false := eqf eScan
  have qUpdate : (x == [117, 112, 100, 97, 116, 101]) = false := eqf eUpdate
  have qPoint : (x == [112, 111, 105, 110, 116]) = false := eqf ePoint
  have qDump : (x == [100, 117, 109, 112]) = false := eqf eDump
  have qOpen : (x == [111, 112, 101, 110]) = false := eqf eOpen
  clear hcm eCrash eLoad eQuery eScan eUpdate ePoint eDump eOpen
  go_enter Tryz.func60, Tryz.ntmps60
  go_wp2
  refine bodyPost_ret (v := .tuple #[cmdV 0 [] 0 (.slice none 0 0), .bool false]) (by simp [results, Tryz.results60, go_sem, cmdV]) rfl ⟨?_, 0, [], 0, none, 0, 0, rfl⟩
  exact ((Below.refl _ _).alloc (Nat.le_refl _) _).alloc (by simp) _
end Go.Proofs.YtakccaldcolbmaaGreatDoor.Wln
