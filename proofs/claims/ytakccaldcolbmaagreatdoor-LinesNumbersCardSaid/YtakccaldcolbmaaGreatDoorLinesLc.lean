/- The walk over LinesCommands (chapter 31). -/
import Derived.Test.YtakccaldcolbmaaGreatDoorLinesAw
namespace Go.Proofs.YtakccaldcolbmaaGreatDoor.Pln
open Go

theorem words_count : ∀ (n : Nat) (s : List UInt8) (L : List (List UInt8)), s.length ≤ n → wordsL s = some L → L.length ≤ s.length := by
  intro n
  induction n with
  | zero =>
    intro s L hs h
    obtain rfl : s = [] := List.length_eq_zero_iff.1 (by omega)
    rw [words_nil rfl] at h
    cases h
    exact Nat.le_refl _
  | succ n ih =>
    intro s L hs h
    have hd := drop_len s
    cases hw : s.dropWhile (· == 32) with
    | nil =>
      rw [words_nil hw] at h
      cases h
      exact Nat.zero_le _
    | cons c r =>
      cases h1 : word1 (c :: r) with
      | none => rw [words_none hw h1] at h; cases h
      | some p =>
        obtain ⟨v, t⟩ := p
        rw [words_some hw h1, Option.map_eq_some_iff] at h
        obtain ⟨M, hM, rfl⟩ := h
        obtain ⟨e, hne⟩ := word1_len h1
        have hl := congrArg List.length e
        rw [List.length_append] at hl
        have hvp := List.length_pos_iff.2 hne
        rw [hw] at hd
        have := ih t M (by omega) hM
        rw [List.length_cons]
        omega
theorem fates_count : ∀ (r : List (List UInt8)) (F : List (Int × Int)), fatesL r = some F → F.length = r.length
  | [], F, h => by
    cases h
    rfl
  | v :: r, F, h => by
    unfold fatesL at h
    cases hv : fateL v with
    | none => rw [hv] at h; cases h
    | some y =>
      cases hr : fatesL r with
      | none => rw [hv, hr] at h; cases h
      | some G =>
        rw [hv, hr] at h
        cases h
        simp [fates_count r G hr]
theorem one_count {k : Nat} {n : Int} {r : List (List UInt8)} {c : Cmd} (h : oneL k n r = some c) : c.2.2.2 = [] := by
  unfold oneL at h
  split at h
  · rw [Option.map_eq_some_iff] at h
    obtain ⟨t, _, rfl⟩ := h
    rfl
  · cases h
theorem bare_count {k : Nat} {r : List (List UInt8)} {c : Cmd} (h : bareL k r = some c) : c.2.2.2 = [] := by
  unfold bareL at h
  split at h
  · cases h
    rfl
  · cases h
theorem cmd_count {L : List (List UInt8)} {c : Cmd} (h : cmdL L = some c) : c.2.2.2.length ≤ L.length := by
  cases L with
  | nil => cases h
  | cons w r =>
    rw [cmdL_cons] at h
    split at h
    · unfold crashL at h
      cases r with
      | nil => cases h
      | cons v r =>
        cases hv : Wk.wholeL v with
        | none => simp only [hv] at h; cases h
        | some x =>
          cases hr : fatesL r with
          | none => simp only [hv, hr] at h; cases h
          | some G =>
            simp only [hv, hr, Option.some.injEq] at h
            subst h
            have := fates_count r G hr
            simp only [List.length_cons]
            omega
    · have : c.2.2.2 = [] := by
        split at h
        · exact one_count h
        · split at h
          · exact one_count h
          · split at h
            · exact one_count h
            · split at h
              · exact one_count h
              · split at h
                · exact bare_count h
                · split at h
                  · exact bare_count h
                  · split at h
                    · exact bare_count h
                    · cases h
      rw [this]
      exact Nat.zero_le _
theorem line_count {s : List UInt8} {c : Cmd} (h : lineL s = some c) : c.2.2.2.length ≤ s.length := by
  unfold lineL at h
  rw [Option.bind_eq_some_iff] at h
  obtain ⟨L, hL, hc⟩ := h
  exact Nat.le_trans (cmd_count hc) (words_count _ s L (Nat.le_refl _) hL)
end Go.Proofs.YtakccaldcolbmaaGreatDoor.Pln
namespace Go.Proofs.YtakccaldcolbmaaGreatDoor.Wln
open Go Go.RowKit Go.Proofs.YtakccaldcolbmaaGreatDoor.Kb

/-- what a reader of a line hands back, flat -/
def flatR : Option (Option Pln.Cmd) → Pln.Cmd × Int
  | none => ((0, [], 0, []), 3)
  | some none => ((0, [], 0, []), 310)
  | some (some c) => (c, 0)
theorem line_flat {w w' : World} {r : Option (Option Pln.Cmd)} {e : Ending} (h : LineIs w r e w') : Below w.heap.size w w' ∧ ∃ A c, e = .returned (.tuple #[cmdV (flatR r).1.1 (flatR r).1.2.1 (flatR r).1.2.2.1 (.slice A (flatR r).1.2.2.2.length c), .int .i64 (flatR r).2]) ∧ RdF w' A (flatR r).1.2.2.2 := by
  obtain ⟨hb, h⟩ := h
  refine ⟨hb, ?_⟩
  match r, h with
  | none, h => exact ⟨none, 0, h, rdf_nil _ _⟩
  | some none, h => exact ⟨none, 0, h, rdf_nil _ _⟩
  | some (some (k, t, n, F)), h =>
    obtain ⟨A, c, he, ho⟩ := h
    exact ⟨A, c, he, rdf_own ho rfl⟩
theorem flat_len (s : ByteArray) : (flatR (lineR s.data.toList)).1.2.2.2.length ≤ 1000000 := by
  unfold lineR
  split
  · exact Nat.zero_le _
  · rename_i h
    cases hl : Pln.lineL s.data.toList with
    | none => exact Nat.zero_le _
    | some c =>
      have := Pln.line_count hl
      show c.2.2.2.length ≤ _
      omega
set_option maxRecDepth 100000 in
set_option maxHeartbeats 1000000 in
theorem law_commands (s : ByteArray) (w : World) (hE : LEnv w) :
    Calls Tryz.prog 16 #[.string s] w fun e w' => e = .returned (.bool true) ∧ Below w.heap.size w w' := by
  by_cases hbig : 70000 < s.size
  · have b1 : (70000 : Int) < (s.size : Int) := by omega
    have cA := awake_any w hE
    have CA := Kept.mk cA
    clear cA hE hbig
    go_enter Tryz.func16, Tryz.ntmps16
    go_wp2_with (go_at_call 5; refine CA.out.mono ?_; rintro e w1 ⟨rfl, hb1⟩; have H1 := Kept.mk hb1; clear hb1)
    go_ret
    exact ⟨rfl, H1.out⟩
  · have b1 : ¬ (70000 : Int) < (s.size : Int) := by omega
    have hF := flat_len s
    have cC := Command_any s w hE (by omega)
    have cR := fun wx => refCommand_any s wx (by omega)
    generalize lineR s.data.toList = r at cC cR hF
    have cC := cC.mono fun e w' h => line_flat h
    have cR := fun wx => (cR wx).mono fun e w' h => line_flat h
    generalize flatR r = q at cC cR hF
    obtain ⟨⟨k, t, n, F⟩, E⟩ := q
    simp only at cC cR hF
    have CC := Kept.mk cC
    have CR := Kept.mk cR
    have HF := Kept.mk hF
    have HE := Kept.mk hE
    clear cC cR hF hE hbig
    go_enter Tryz.func16, Tryz.ntmps16
    go_wp2_with (first
      | (go_at_call 18; refine CC.out.mono ?_; rintro e w1 ⟨hb1, A1, c1, rfl, hr1⟩; have H1 := Kept.mk hb1; have R1 := Kept.mk hr1; have hC := World.alloc_heap_new w1 (.cells #[.int .u8 (k : Int), .string ⟨t.toArray⟩, .int .i64 n, .slice A1 F.length c1] 40); have B1 : Kept (Below w1.heap.size w1 (w1.alloc (.cells #[.int .u8 (k : Int), .string ⟨t.toArray⟩, .int .i64 n, .slice A1 F.length c1] 40))) := ⟨(Below.refl _ _).alloc (Nat.le_refl _) _⟩; have HC := Kept.mk hC; unfold cmdV; clear hb1 hr1 hC)
      | (go_at_call 29; refine (CR.out _).mono ?_; rintro e w2 ⟨hb2, A2, c2, rfl, hr2⟩; have hz := (hb2.block w1.heap.size (by simp)).trans HC.out; have r0 := cell_of_row _ w1.heap.size 0 _ _ _ hz; have r1 := cell_of_row _ w1.heap.size 1 _ _ _ hz; have r2 := cell_of_row _ w1.heap.size 2 _ _ _ hz; have r3 := cell_of_row _ w1.heap.size 3 _ _ _ hz; have l2 : w1.heap.size < w2.heap.size := (Array.getElem?_eq_some_iff.1 hz).1; have H2 := Kept.mk (B1.out.trans (hb2.mono B1.out.size)); have R2 := Kept.mk hr2; unfold cmdV; clear hb2 hr2 hz)
      | (go_at_call 28; have hb2 : Below w2.heap.size w2 (w2.alloc (.cells #[.int .u8 (k : Int), .string ⟨t.toArray⟩, .int .i64 n, .slice A2 F.length c2] 40)) := (Below.refl _ _).alloc (Nat.le_refl _) _; refine (sameCommand_any k t n F A1 A2 c1 c2 _ ((R1.out.below H2.out).below hb2) (R2.out.below hb2) HF.out).mono ?_; rintro e w3 ⟨rfl, hb3⟩; have H3 := Kept.mk (H1.out.trans ((H2.out.trans ((hb2.trans (hb3.mono hb2.size)).mono H2.out.size)).mono H1.out.size)); clear hb2 hb3)
      | (go_at_call 5; refine (awake_any _ (HE.out.below H3.out)).mono ?_; rintro e w4 ⟨rfl, hb4⟩; have H4 := Kept.mk hb4; clear hb4))
    go_ret
    exact ⟨rfl, H3.out.trans (H4.out.mono H3.out.size)⟩
end Go.Proofs.YtakccaldcolbmaaGreatDoor.Wln
