/- The walk over LinesBlanks (chapter 31). -/
import Derived.Test.YtlaheponkbihaaaDoorLinesLc
namespace Go.Proofs.YtlaheponkbihaaaDoor.Wln
open Go Go.RowKit Go.Proofs.YtlaheponkbihaaaDoor.Kb

/-- Command, flat -/
theorem Command_flat (s : ByteArray) (q : Pln.Cmd × Int) (hs : s.size ≤ 65536) (hq : flatR (some (Pln.lineL s.data.toList)) = q) (w : World) (hE : LEnv w) :
    Calls Tryd.prog 7 #[.string s] w fun e w' => Below w.heap.size w w' ∧ ∃ A c, e = .returned (.tuple #[cmdV q.1.1 q.1.2.1 q.1.2.2.1 (.slice A q.1.2.2.2.length c), .int .i64 q.2]) ∧ RdF w' A q.1.2.2.2 := by
  have h := Command_any s w hE (by omega)
  rw [show lineR s.data.toList = some (Pln.lineL s.data.toList) from if_neg (by rw [size_len]; omega)] at h
  subst hq
  exact h.mono fun e w' h => line_flat h
theorem cat_list (a b : ByteArray) : (a ++ b).data.toList = a.data.toList ++ b.data.toList := by simp
set_option maxRecDepth 100000 in
set_option maxHeartbeats 2000000 in
theorem law_blanks (s : ByteArray) (w : World) (hE : LEnv w) :
    Calls Tryd.prog 5 #[.string s] w fun e w' => e = .returned (.bool true) ∧ Below w.heap.size w w' := by
  have CA := Kept.mk (awake_any w hE)
  by_cases hbig : 20000 < s.size
  · have b1 : (20000 : Int) < (s.size : Int) := by omega
    clear hE hbig
    go_enter Tryd.func5, Tryd.ntmps5
    go_wp2_with (go_at_call 6; refine CA.out.mono ?_; rintro e w1 ⟨rfl, hb1⟩; have H1 := Kept.mk hb1; clear hb1)
    go_ret
    exact ⟨rfl, H1.out⟩
  · have b1 : ¬ (20000 : Int) < (s.size : Int) := by omega
    have z1 : (⟨#[32, 32, 32]⟩ ++ s : ByteArray).size = 3 + s.size := by rw [ByteArray.size_append]; rfl
    have z2 : (⟨#[32, 32, 32]⟩ ++ s ++ ⟨#[32, 32]⟩ : ByteArray).size = 3 + s.size + 2 := by rw [ByteArray.size_append, z1]; rfl
    have z3 : (s ++ ⟨#[32, 53, 58, 53]⟩ : ByteArray).size = s.size + 4 := by rw [ByteArray.size_append]; rfl
    have n1 : ¬ 9223372036854775807 < 3 + s.size := by omega
    have n2 : ¬ 9223372036854775807 < 3 + s.size + 2 := by omega
    have n3 : ¬ 9223372036854775807 < s.size + 4 := by omega
    have l2 : Pln.lineL (⟨#[32, 32, 32]⟩ ++ s ++ ⟨#[32, 32]⟩ : ByteArray).data.toList = Pln.lineL s.data.toList := by
      rw [cat_list, cat_list]
      exact Pln.line_blanks _
    have l3 : (s ++ ⟨#[32, 53, 58, 53]⟩ : ByteArray).data.toList = s.data.toList ++ [32, 53, 58, 53] := cat_list _ _
    have C1 := Command_flat s _ (by omega) rfl
    have C2 := Command_flat (⟨#[32, 32, 32]⟩ ++ s ++ ⟨#[32, 32]⟩) _ (by omega) rfl
    have C3 := Command_flat (s ++ ⟨#[32, 53, 58, 53]⟩) _ (by omega) rfl
    rw [l2] at C2
    rw [l3] at C3
    have HE := Kept.mk hE
    have FST := Kept.mk trivial
    cases hl : Pln.lineL s.data.toList with
    | none =>
      rw [hl] at C1 C2
      have C1 := Kept.mk C1
      have C2 := Kept.mk C2
      clear C3 hE hbig hl l2 l3
      go_enter Tryd.func5, Tryd.ntmps5
      go_wp2_with (first
        | (go_at_call 6; refine CA.out.mono ?_; rintro e w1 ⟨rfl, hb1⟩; have H1 := Kept.mk hb1; clear hb1)
        | (go_at_call 7; clear FST; refine (C1.out _ (HE.out.below H1.out)).mono ?_; rintro e w2 ⟨hb2, A1, c1, rfl, hr1⟩; have H2 := Kept.mk (H1.out.trans (hb2.mono H1.out.size)); have hC := World.alloc_heap_new w2 (.cells #[.int .u8 0, .string ⟨#[]⟩, .int .i64 0, .slice A1 0 c1] 26); have B1 : Kept (Below w2.heap.size w2 (w2.alloc (.cells #[.int .u8 0, .string ⟨#[]⟩, .int .i64 0, .slice A1 0 c1] 26))) := ⟨(Below.refl _ _).alloc (Nat.le_refl _) _⟩; have HC := Kept.mk hC; unfold cmdV; simp only [flatR]; clear hb2 hr1 hC)
        | (go_at_call 7; refine (C2.out _ ((HE.out.below H2.out).below B1.out)).mono ?_; rintro e w3 ⟨hb3, A2, c2, rfl, hr2⟩; have hz := (hb3.block w2.heap.size (by simp)).trans HC.out; have r0 := cell_of_row _ w2.heap.size 0 _ _ _ hz; have r1 := cell_of_row _ w2.heap.size 1 _ _ _ hz; have r2 := cell_of_row _ w2.heap.size 2 _ _ _ hz; have r3 := cell_of_row _ w2.heap.size 3 _ _ _ hz; have k3 : w2.heap.size < w3.heap.size := (Array.getElem?_eq_some_iff.1 hz).1; have H3 := Kept.mk (H2.out.trans ((B1.out.trans (hb3.mono B1.out.size)).mono H2.out.size)); unfold cmdV; simp only [flatR]; clear hb3 hr2 hz)
        | (go_at_call 9; have hb4 : Below w3.heap.size w3 (w3.alloc (.cells #[.int .u8 0, .string ⟨#[]⟩, .int .i64 0, .slice A2 0 c2] 26)) := (Below.refl _ _).alloc (Nat.le_refl _) _; refine (sameCommand_any 0 [] 0 [] A1 A2 c1 c2 _ (rdf_nil _ _) (rdf_nil _ _) (by decide)).mono ?_; rintro e w4 ⟨rfl, hb5⟩; have H4 := Kept.mk (H3.out.trans ((hb4.trans (hb5.mono hb4.size)).mono H3.out.size)); clear hb4 hb5))
      go_ret
      exact ⟨rfl, H4.out⟩
    | some cm =>
      obtain ⟨k, t, n, F⟩ := cm
      have hF : F.length ≤ 20000 := by
        have := Pln.line_count hl
        simp only [size_len] at this
        omega
      have hm := Pln.line_more hl
      simp only at hm
      have HF : Kept (F.length ≤ 1000000) := ⟨by omega⟩
      have SND := Kept.mk trivial
      rw [hl] at C1 C2
      have C1 := Kept.mk C1
      have C2 := Kept.mk C2
      by_cases hk : k = 6
      · rw [if_pos hk] at hm
        subst hk
        rw [hm] at C3
        have C3 := Kept.mk C3
        have HEQ := eql_fate 5 5
        have f0 : (0 : Int) ≤ (F.length : Int) := by omega
        have f1 : (F.length : Int) < (F.length : Int) + 1 := by omega
        have f2 : ¬ (F.length : Int) + 1 ≤ (F.length : Int) := by omega
        clear hm hE hbig hl l2 l3
        go_enter Tryd.func5, Tryd.ntmps5
        go_wp2_with (first
          | (go_at_call 6; refine CA.out.mono ?_; rintro e w1 ⟨rfl, hb1⟩; have H1 := Kept.mk hb1; clear hb1)
          | (go_at_call 7; clear FST; refine (C1.out _ (HE.out.below H1.out)).mono ?_; rintro e w2 ⟨hb2, A1, c1, rfl, hr1⟩; have R1 := Kept.mk hr1; have H2 := Kept.mk (H1.out.trans (hb2.mono H1.out.size)); have hC := World.alloc_heap_new w2 (.cells #[.int .u8 6, .string ⟨t.toArray⟩, .int .i64 n, .slice A1 F.length c1] 26); have B1 : Kept (Below w2.heap.size w2 (w2.alloc (.cells #[.int .u8 6, .string ⟨t.toArray⟩, .int .i64 n, .slice A1 F.length c1] 26))) := ⟨(Below.refl _ _).alloc (Nat.le_refl _) _⟩; have HC := Kept.mk hC; unfold cmdV; simp only [flatR]; clear hb2 hr1 hC)
          | (go_at_call 7; clear SND; refine (C2.out _ ((HE.out.below H2.out).below B1.out)).mono ?_; rintro e w3 ⟨hb3, A2, c2, rfl, hr2⟩; have R2 := Kept.mk hr2; have hz := (hb3.block w2.heap.size (by simp)).trans HC.out; have r0 := cell_of_row _ w2.heap.size 0 _ _ _ hz; have r1 := cell_of_row _ w2.heap.size 1 _ _ _ hz; have r2 := cell_of_row _ w2.heap.size 2 _ _ _ hz; have r3 := cell_of_row _ w2.heap.size 3 _ _ _ hz; have k3 : w2.heap.size < w3.heap.size := (Array.getElem?_eq_some_iff.1 hz).1; have H3 := Kept.mk (H2.out.trans ((B1.out.trans (hb3.mono B1.out.size)).mono H2.out.size)); have B2 := Kept.mk (B1.out.trans (hb3.mono B1.out.size)); have HZ := Kept.mk hz; unfold cmdV; simp only [flatR]; clear hb3 hr2 hz)
          | (go_at_call 9; have hb4 : Below w3.heap.size w3 (w3.alloc (.cells #[.int .u8 6, .string ⟨t.toArray⟩, .int .i64 n, .slice A2 F.length c2] 26)) := (Below.refl _ _).alloc (Nat.le_refl _) _; refine (sameCommand_any _ t n F A1 A2 c1 c2 _ ((R1.out.below B2.out).below hb4) (R2.out.below hb4) HF.out).mono ?_; rintro e w4 ⟨rfl, hb5⟩; have hz := (hb5.block w2.heap.size (by have := B2.out.size; have := k3; simp; omega)).trans ((hb4.block w2.heap.size k3).trans HZ.out); clear r0 r1 r2 r3; have r0 := cell_of_row _ w2.heap.size 0 _ _ _ hz; have r1 := cell_of_row _ w2.heap.size 1 _ _ _ hz; have r2 := cell_of_row _ w2.heap.size 2 _ _ _ hz; have r3 := cell_of_row _ w2.heap.size 3 _ _ _ hz; have k4 : w2.heap.size < w4.heap.size := (Array.getElem?_eq_some_iff.1 hz).1; have HZ4 := Kept.mk hz; have H4 := Kept.mk (H3.out.trans ((hb4.trans (hb5.mono hb4.size)).mono H3.out.size)); clear hb4 hb5 hz)
          | (go_at_call 7; refine (C3.out _ (HE.out.below H4.out)).mono ?_; rintro e w5 ⟨hb5, A3, c3, rfl, hr3⟩; have hz := (hb5.block w2.heap.size k4).trans HZ4.out; clear r0 r1 r2 r3; have r0 := cell_of_row _ w2.heap.size 0 _ _ _ hz; have r2 := cell_of_row _ w2.heap.size 2 _ _ _ hz; have r3 := cell_of_row _ w2.heap.size 3 _ _ _ hz; have k5 : w2.heap.size < w5.heap.size := (Array.getElem?_eq_some_iff.1 hz).1; have H5 := Kept.mk (H4.out.trans (hb5.mono H4.out.size)); obtain ⟨g3, o3, rfl, e0, e1⟩ := hr3 F.length (5, 5) (by simp [flatR]); have lg := cell_lt e0; unfold cmdV; simp only [flatR, List.length_append, List.length_cons, List.length_nil] at e0 e1 lg ⊢; clear hb5 hz))

        go_ret
        exact ⟨rfl, H5.out.alloc H5.out.size _⟩
      · rw [if_neg hk] at hm
        rw [hm] at C3
        have C3 := Kept.mk C3
        have k6 : ¬ (k : Int) = 6 := by omega
        clear hm hE hbig hl l2 l3 hk
        go_enter Tryd.func5, Tryd.ntmps5
        go_wp2_with (first
          | (go_at_call 6; refine CA.out.mono ?_; rintro e w1 ⟨rfl, hb1⟩; have H1 := Kept.mk hb1; clear hb1)
          | (go_at_call 7; clear FST; refine (C1.out _ (HE.out.below H1.out)).mono ?_; rintro e w2 ⟨hb2, A1, c1, rfl, hr1⟩; have R1 := Kept.mk hr1; have H2 := Kept.mk (H1.out.trans (hb2.mono H1.out.size)); have hC := World.alloc_heap_new w2 (.cells #[.int .u8 (k : Int), .string ⟨t.toArray⟩, .int .i64 n, .slice A1 F.length c1] 26); have B1 : Kept (Below w2.heap.size w2 (w2.alloc (.cells #[.int .u8 (k : Int), .string ⟨t.toArray⟩, .int .i64 n, .slice A1 F.length c1] 26))) := ⟨(Below.refl _ _).alloc (Nat.le_refl _) _⟩; have HC := Kept.mk hC; unfold cmdV; simp only [flatR]; clear hb2 hr1 hC)
          | (go_at_call 7; clear SND; refine (C2.out _ ((HE.out.below H2.out).below B1.out)).mono ?_; rintro e w3 ⟨hb3, A2, c2, rfl, hr2⟩; have R2 := Kept.mk hr2; have hz := (hb3.block w2.heap.size (by simp)).trans HC.out; have r0 := cell_of_row _ w2.heap.size 0 _ _ _ hz; have r1 := cell_of_row _ w2.heap.size 1 _ _ _ hz; have r2 := cell_of_row _ w2.heap.size 2 _ _ _ hz; have r3 := cell_of_row _ w2.heap.size 3 _ _ _ hz; have k3 : w2.heap.size < w3.heap.size := (Array.getElem?_eq_some_iff.1 hz).1; have H3 := Kept.mk (H2.out.trans ((B1.out.trans (hb3.mono B1.out.size)).mono H2.out.size)); have B2 := Kept.mk (B1.out.trans (hb3.mono B1.out.size)); have HZ := Kept.mk hz; unfold cmdV; simp only [flatR]; clear hb3 hr2 hz)
          | (go_at_call 9; have hb4 : Below w3.heap.size w3 (w3.alloc (.cells #[.int .u8 (k : Int), .string ⟨t.toArray⟩, .int .i64 n, .slice A2 F.length c2] 26)) := (Below.refl _ _).alloc (Nat.le_refl _) _; refine (sameCommand_any _ t n F A1 A2 c1 c2 _ ((R1.out.below B2.out).below hb4) (R2.out.below hb4) HF.out).mono ?_; rintro e w4 ⟨rfl, hb5⟩; have hz := (hb5.block w2.heap.size (by have := B2.out.size; have := k3; simp; omega)).trans ((hb4.block w2.heap.size k3).trans HZ.out); clear r0 r1 r2 r3; have r0 := cell_of_row _ w2.heap.size 0 _ _ _ hz; have r1 := cell_of_row _ w2.heap.size 1 _ _ _ hz; have r2 := cell_of_row _ w2.heap.size 2 _ _ _ hz; have r3 := cell_of_row _ w2.heap.size 3 _ _ _ hz; have k4 : w2.heap.size < w4.heap.size := (Array.getElem?_eq_some_iff.1 hz).1; have HZ4 := Kept.mk hz; have H4 := Kept.mk (H3.out.trans ((hb4.trans (hb5.mono hb4.size)).mono H3.out.size)); clear hb4 hb5 hz)
          | (go_at_call 7; refine (C3.out _ (HE.out.below H4.out)).mono ?_; rintro e w5 ⟨hb5, A3, c3, rfl, hr3⟩; have hz := (hb5.block w2.heap.size k4).trans HZ4.out; clear r0 r1 r2 r3; have r0 := cell_of_row _ w2.heap.size 0 _ _ _ hz; have k5 : w2.heap.size < w5.heap.size := (Array.getElem?_eq_some_iff.1 hz).1; have H5 := Kept.mk (H4.out.trans (hb5.mono H4.out.size)); unfold cmdV; simp only [flatR]; clear hb5 hr3 hz))
        go_ret
        exact ⟨rfl, H5.out.alloc H5.out.size _⟩
end Go.Proofs.YtlaheponkbihaaaDoor.Wln
