/- Commands of lines: the program's Command and the document's (chapter 31). -/
import Derived.Test.YtakccaldcolbmaaGreatDoorLinesCd
import Derived.Test.YtakccaldcolbmaaGreatDoorLinesCm
namespace Go.Proofs.YtakccaldcolbmaaGreatDoor.Wln
open Go Go.RowKit Go.Proofs.YtakccaldcolbmaaGreatDoor.Kb

set_option maxRecDepth 100000 in
set_option maxHeartbeats 16000000 in
theorem command_nil (A : Option Addr) (c : Nat) (w : World) (hE : LEnv w) : Calls Tryz.prog 35 #[.slice A 0 c] w (CmdIs w (Pln.cmdL [])) := by
  have hrc : RC w (w.alloc (.cells #[.int .u8 0, .string ⟨#[]⟩, .int .i64 0, .slice none 0 0] 40)) := ⟨World.alloc_heap_new w _, (Below.refl _ _).alloc (Nat.le_refl _) _⟩
  obtain ⟨ts, fs, hsg⟩ := (hE.below hrc.2).verbs
  have HSG := Kept.mk hsg
  have HRC := Kept.mk hrc
  clear hsg hrc hE
  go_enter Tryz.func35, Tryz.ntmps35
  go_upto_region 3 with (fail)
  go_wp2_with (refine wpList_load_row rfl _ _ rfl 1 rfl ts verbA fs _ HSG.out Tryz.underlying132 rfl info_verbs ?_)
  generalize w.alloc (.cells #[.int .u8 0, .string ⟨#[]⟩, .int .i64 0, .slice none 0 0] 40) = W2 at HRC HSG ⊢
  clear HSG
  go_loopw [5, 6, 7, 8, 24] (fun _ _ _ _ i wx => ∃ k : Nat, i = .int .i64 k ∧ k ≤ 7 ∧ Kept (RC w wx)) (fun _ _ _ _ i _ => 7 - (intOf i).toNat)
  case atStart => exact ⟨0, rfl, by omega, HRC⟩
  case round =>
    clear HRC
    obtain ⟨k, rfl, hk, HRC⟩ := hrel
    have k0 : (0 : Int) ≤ (k : Int) := by omega
    by_cases hlt : k < 7
    · have k1 : (k : Int) < 7 := by omega
      obtain ⟨⟨W, K, N, T⟩, hv⟩ : ∃ v, verbsL[k]? = some v := ⟨_, List.getElem?_eq_getElem (show k < verbsL.length from hlt)⟩
      have hix := fun wx => verb_index k W K N T wx hv
      go_upto_region 6 with (fail)
      go_quiet (fail)
      have hbb : Below wr.heap.size wr ((wr.alloc (.cells #[.string ⟨W.toArray⟩, .int .u8 K, .int .i64 N, .bool T] 131)).drewN nq) := ((Below.refl _ _).alloc (Nat.le_refl _) _).trans ((Bl.drewN _ nq).mono (by simp))
      have HRC2 := Kept.mk (HRC.out.below hbb)
      clear hbb
      go_wp2
      go_roundw
      case rel => exact ⟨k + 1, by go_num, by omega, HRC2⟩
      case measure => simp [intOf]; omega
    · obtain rfl : k = 7 := by omega
      obtain ⟨d0, d1, d2, d3, f0, _⟩ := HRC.out.cells
      have hz4 := set4 (.int .u8 0) (.string ⟨#[]⟩) (.int .i64 0) (.slice none 0 0) HRC.out.1
      have r0 := cell_of_row _ w.heap.size 0 _ _ _ hz4
      have r1 := cell_of_row _ w.heap.size 1 _ _ _ hz4
      have r2 := cell_of_row _ w.heap.size 2 _ _ _ hz4
      have r3 := cell_of_row _ w.heap.size 3 _ _ _ hz4
      have HRR := Kept.mk (And.intro r0 (And.intro r1 (And.intro r2 r3)))
      clear hz4 r0 r1 r2 r3
      go_wp2
      obtain ⟨r0, r1, r2, r3⟩ := HRR.out
      refine bodyPost_ret (v := .tuple #[cmdV 0 [] 0 (.slice none 0 0), .bool false]) (by simp [results, Tryz.results35, go_sem, cmdV, r0, r1, r2, r3]) rfl ?_
      exact ⟨((((HRC.out.2.setCell (p := ⟨w.heap.size, 0, none⟩) (Nat.le_refl _) _).setCell (p := ⟨w.heap.size, 1, none⟩) (Nat.le_refl _) _).setCell (p := ⟨w.heap.size, 2, none⟩) (Nat.le_refl _) _).setCell (p := ⟨w.heap.size, 3, none⟩) (Nat.le_refl _) _), 0, [], 0, none, 0, 0, rfl⟩
theorem refcommand_nil (A : Option Addr) (c : Nat) (w : World) : Calls Tryz.prog 60 #[.slice A 0 c] w (CmdIs w (Pln.cmdL [])) := by
  go_enter Tryz.func60, Tryz.ntmps60
  go_wp2
  refine bodyPost_ret (v := .tuple #[cmdV 0 [] 0 (.slice none 0 0), .bool false]) (by simp [results, Tryz.results60, go_sem, cmdV]) rfl ⟨(Below.refl _ _).alloc (Nat.le_refl _) _, 0, [], 0, none, 0, 0, rfl⟩
theorem command_any (A : Option Addr) (c : Nat) (L : List (List UInt8)) (w : World) (hE : LEnv w) (hr : RdS w A L) (hc : L.length ≤ c) (hL : L.length ≤ 65536) (hsz : ∀ y ∈ L, y.length ≤ 65536 ∧ (y.head? = some 34 → 2 ≤ y.length)) :
    Calls Tryz.prog 35 #[.slice A L.length c] w (CmdIs w (Pln.cmdL L)) := by
  cases L with
  | nil => exact command_nil A c w hE
  | cons x r =>
    obtain ⟨g, off, rfl, _⟩ := hr 0 x rfl
    exact command_cons g off c x r w hE hr hc hL hsz
theorem refcommand_any (A : Option Addr) (c : Nat) (L : List (List UInt8)) (w : World) (hr : RdS w A L) (hc : L.length ≤ c) (hL : L.length ≤ 65536) (hsz : ∀ y ∈ L, y.length ≤ 65536) :
    Calls Tryz.prog 60 #[.slice A L.length c] w (CmdIs w (Pln.cmdL L)) := by
  cases L with
  | nil => exact refcommand_nil A c w
  | cons x r =>
    obtain ⟨g, off, rfl, _⟩ := hr 0 x rfl
    exact refcommand_cons g off c x r w hr hc hL hsz
/-- the program's Command -/
theorem Command_any (s : ByteArray) (w : World) (hE : LEnv w) (hs : s.size ≤ 1000000) : Calls Tryz.prog 18 #[.string s] w (LineIs w (lineR s.data.toList)) :=
  Command_of s w hs fun W A c L hr hc hL hsz hb => command_any A c L W (hE.below hb) hr hc hL hsz
set_option maxRecDepth 100000 in
set_option maxHeartbeats 4000000 in
/-- the document's Command -/
theorem refCommand_any (s : ByteArray) (w : World) (hs : s.size ≤ 1000000) : Calls Tryz.prog 29 #[.string s] w (LineIs w (lineR s.data.toList)) := by
  by_cases hbig : 65536 < s.size
  · have b1 : (65536 : Int) < (s.size : Int) := by omega
    rw [show lineR s.data.toList = none from if_pos (by rw [size_len]; exact hbig)]
    clear hbig hs
    go_enter Tryz.func29, Tryz.ntmps29
    go_wp2
    refine bodyPost_ret (v := .tuple #[cmdV 0 [] 0 (.slice none 0 0), .int .i64 3]) (by simp [results, Tryz.results29, go_sem, cmdV]) rfl ⟨(Below.refl _ _).alloc (Nat.le_refl _) _, rfl⟩
  · have b1 : ¬ (65536 : Int) < (s.size : Int) := by omega
    rw [show lineR s.data.toList = some (Pln.lineL s.data.toList) from if_neg (by rw [size_len]; exact hbig)]
    have hs2 : s.size ≤ 65536 := by omega
    have cW := fun wx => refwords_any s wx hs
    have hrc : RC w (w.alloc (.cells #[.int .u8 0, .string ⟨#[]⟩, .int .i64 0, .slice none 0 0] 40)) := ⟨World.alloc_heap_new w _, (Below.refl _ _).alloc (Nat.le_refl _) _⟩
    have HRC := Kept.mk hrc
    clear hrc
    cases hw : Pln.wordsL s.data.toList with
    | none =>
      rw [hw] at cW
      have hl : Pln.lineL s.data.toList = none := by unfold Pln.lineL; rw [hw]; rfl
      rw [hl]
      have CW := Kept.mk cW
      clear cW hw hl
      go_enter Tryz.func29, Tryz.ntmps29
      go_wp2_with (go_at_call 59; refine (CW.out _).mono ?_; rintro e w1 ⟨rfl, hb1⟩; have hr1 := HRC.out.below hb1; obtain ⟨d0, d1, d2, d3, f0, l0⟩ := hr1.cells; have HR1 := Kept.mk hr1; clear hb1 hr1)
      have hz4 := set4 (.int .u8 0) (.string ⟨#[]⟩) (.int .i64 0) (.slice none 0 0) HR1.out.1
      have r0 := cell_of_row _ w.heap.size 0 _ _ _ hz4
      have r1 := cell_of_row _ w.heap.size 1 _ _ _ hz4
      have r2 := cell_of_row _ w.heap.size 2 _ _ _ hz4
      have r3 := cell_of_row _ w.heap.size 3 _ _ _ hz4
      refine bodyPost_ret (v := .tuple #[cmdV 0 [] 0 (.slice none 0 0), .int .i64 310]) (by simp [results, Tryz.results29, go_sem, cmdV, r0, r1, r2, r3]) rfl ?_
      exact ⟨((((HR1.out.2.setCell (p := ⟨w.heap.size, 0, none⟩) (Nat.le_refl _) _).setCell (p := ⟨w.heap.size, 1, none⟩) (Nat.le_refl _) _).setCell (p := ⟨w.heap.size, 2, none⟩) (Nat.le_refl _) _).setCell (p := ⟨w.heap.size, 3, none⟩) (Nat.le_refl _) _), rfl⟩
    | some L =>
      rw [hw] at cW
      have hline : Pln.lineL s.data.toList = Pln.cmdL L := by unfold Pln.lineL; rw [hw]; rfl
      rw [hline]
      have hLs : L.length ≤ s.size → L.length ≤ 65536 := fun h => by omega
      have hyl : ∀ y ∈ L, y.length ≤ 65536 := fun y hy => Nat.le_trans (Pln.words_each _ _ _ (Nat.le_refl _) hw y hy).1 (by rw [size_len]; exact hs2)
      have hLK := Kept.mk hLs
      have hYK := Kept.mk hyl
      have CW := Kept.mk cW
      clear cW hw hline hLs hyl
      have cC : ∀ (W : World) (v : Value) (B : Nat), W.ownsRow B 9 1 v L.length (stC L) → L.length ≤ s.size → Calls Tryz.prog 60 #[v] W (CmdIs W (Pln.cmdL L)) := by
        intro W v B ho hl
        obtain ⟨A, c, rfl, hAc⟩ := own_shapeS ho
        exact refcommand_any A c L W (rds_own ho rfl) hAc (hLK.out hl) hYK.out
      have CC := Kept.mk cC
      clear cC
      cases hcm : Pln.cmdL L with
      | none =>
        rw [hcm] at CC
        clear hcm
        go_enter Tryz.func29, Tryz.ntmps29
        go_wp2_with (first
          | (go_at_call 59; refine (CW.out _).mono ?_; rintro e w1 ⟨⟨v, rfl, ho, hl⟩, hb1⟩; have hr1 := HRC.out.below hb1; have HR1 := Kept.mk hr1; have HO := Kept.mk ho; have HLL := Kept.mk hl; clear hb1 hr1 ho hl)
          | (go_at_call 60; refine (CC.out _ _ _ HO.out HLL.out).mono ?_; rintro e w2 ⟨hb2, k', t', n', A', m', c', rfl⟩; have hr2 := HR1.out.below hb2; obtain ⟨d0, d1, d2, d3, f0, l0⟩ := hr2.cells; have HR2 := Kept.mk hr2; clear hb2 hr2; simp only [cmdV]))
        have hz4 := set4 (.int .u8 0) (.string ⟨#[]⟩) (.int .i64 0) (.slice none 0 0) HR2.out.1
        have hb4 := ((((HR2.out.2.setCell (p := ⟨w.heap.size, 0, none⟩) (Nat.le_refl _) (.int .u8 0)).setCell (p := ⟨w.heap.size, 1, none⟩) (Nat.le_refl _) (.string ⟨#[]⟩)).setCell (p := ⟨w.heap.size, 2, none⟩) (Nat.le_refl _) (.int .i64 0)).setCell (p := ⟨w.heap.size, 3, none⟩) (Nat.le_refl _) (.slice none 0 0))
        have hz5 := (Below.heap_alloc _ (.cells #[.int .u8 k', .string ⟨t'.toArray⟩, .int .i64 n', .slice A' m' c'] 40) _ (Array.getElem?_eq_some_iff.1 hz4).1).trans hz4
        have r0 := cell_of_row _ w.heap.size 0 _ _ _ hz5
        have r1 := cell_of_row _ w.heap.size 1 _ _ _ hz5
        have r2 := cell_of_row _ w.heap.size 2 _ _ _ hz5
        have r3 := cell_of_row _ w.heap.size 3 _ _ _ hz5
        refine bodyPost_ret (v := .tuple #[cmdV 0 [] 0 (.slice none 0 0), .int .i64 310]) (by simp [results, Tryz.results29, go_sem, cmdV, r0, r1, r2, r3]) rfl ⟨hb4.alloc hb4.size _, rfl⟩
      | some cm =>
        obtain ⟨k', t', n', F'⟩ := cm
        rw [hcm] at CC
        clear hcm
        go_enter Tryz.func29, Tryz.ntmps29
        go_wp2_with (first
          | (go_at_call 59; refine (CW.out _).mono ?_; rintro e w1 ⟨⟨v, rfl, ho, hl⟩, hb1⟩; have hr1 := HRC.out.below hb1; have HR1 := Kept.mk hr1; have HO := Kept.mk ho; have HLL := Kept.mk hl; clear hb1 hr1 ho hl)
          | (go_at_call 60; refine (CC.out _ _ _ HO.out HLL.out).mono ?_; rintro e w2 ⟨hb2, A', c', rfl, hF⟩; have hr2 := HR1.out.below hb2; obtain ⟨d0, d1, d2, d3, f0, l0⟩ := hr2.cells; have HR2 := Kept.mk hr2; have HF := Kept.mk hF; clear hb2 hr2 hF; simp only [cmdV]))
        have hz4 := set4 (.int .u8 (k' : Int)) (.string ⟨t'.toArray⟩) (.int .i64 n') (.slice A' F'.length c') HR2.out.1
        have hb4 := ((((HR2.out.2.setCell (p := ⟨w.heap.size, 0, none⟩) (Nat.le_refl _) (.int .u8 (k' : Int))).setCell (p := ⟨w.heap.size, 1, none⟩) (Nat.le_refl _) (.string ⟨t'.toArray⟩)).setCell (p := ⟨w.heap.size, 2, none⟩) (Nat.le_refl _) (.int .i64 n')).setCell (p := ⟨w.heap.size, 3, none⟩) (Nat.le_refl _) (.slice A' F'.length c'))
        have hz5 := (Below.heap_alloc _ (.cells #[.int .u8 (k' : Int), .string ⟨t'.toArray⟩, .int .i64 n', .slice A' F'.length c'] 40) _ (Array.getElem?_eq_some_iff.1 hz4).1).trans hz4
        have r0 := cell_of_row _ w.heap.size 0 _ _ _ hz5
        have r1 := cell_of_row _ w.heap.size 1 _ _ _ hz5
        have r2 := cell_of_row _ w.heap.size 2 _ _ _ hz5
        have r3 := cell_of_row _ w.heap.size 3 _ _ _ hz5
        refine bodyPost_ret (v := .tuple #[cmdV k' t' n' (.slice A' F'.length c'), .int .i64 0]) (by simp [results, Tryz.results29, go_sem, cmdV, r0, r1, r2, r3]) rfl ⟨hb4.alloc hb4.size _, A', c', rfl, ?_⟩
        have hl1 := (Array.getElem?_eq_some_iff.1 HR1.out.1).1
        refine own_base (own_far HF.out fun g hg hlt => ?_) HR1.out.2.size
        rw [Below.heap_alloc _ _ _ (by simp only [World.setCell, Array.size_modify]; exact hlt), Below.heap_setCell _ _ _ _ (by show g ≠ w.heap.size; omega), Below.heap_setCell _ _ _ _ (by show g ≠ w.heap.size; omega), Below.heap_setCell _ _ _ _ (by show g ≠ w.heap.size; omega), Below.heap_setCell _ _ _ _ (by show g ≠ w.heap.size; omega)]
end Go.Proofs.YtakccaldcolbmaaGreatDoor.Wln
