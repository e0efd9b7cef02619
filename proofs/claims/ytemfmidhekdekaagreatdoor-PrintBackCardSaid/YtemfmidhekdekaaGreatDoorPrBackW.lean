/- The walk over PrintBack (chapter 08). -/
import Derived.Test.YtemfmidhekdekaaGreatDoorPrintLn
namespace Go.Proofs.YtemfmidhekdekaaGreatDoor.Wps
open Go Go.RowKit Go.Proofs.YtemfmidhekdekaaGreatDoor.Kb Go.Proofs.YtemfmidhekdekaaGreatDoor.Wch Go.Proofs.YtemfmidhekdekaaGreatDoor.Wtr Go.Proofs.YtemfmidhekdekaaGreatDoor.Flt Go.Proofs.YtemfmidhekdekaaGreatDoor.Ptr Go.Proofs.YtemfmidhekdekaaGreatDoor.Ppa

theorem contains_one (a : UInt8) : ∀ l : List UInt8, Lib.contains l [a] = decide (a ∈ l)
  | [] => by simp [Lib.contains, Lib.index]
  | x :: r => by
    have ih := contains_one a r
    have hge := Lib.index_ge r [a]
    unfold Lib.contains at ih ⊢
    rw [Lib.index]
    by_cases hx : x = a
    · subst hx
      simp [List.isPrefixOf]
    · rw [if_neg (by simp [List.isPrefixOf]; exact fun e => hx e.symm)]
      generalize Lib.index r [a] = z at hge ih ⊢
      have hm : decide (a ∈ x :: r) = decide (a ∈ r) := by
        have : (a ∈ x :: r) ↔ (a ∈ r) := by
          rw [List.mem_cons]
          exact ⟨fun h => h.resolve_left fun e => hx e.symm, .inr⟩
        simp only [this]
      rw [hm, ← ih]
      by_cases e : z = -1
      · subst e
        rfl
      · rw [if_neg (by simpa using e)]
        simp only [decide_eq_decide]
        omega
theorem cr_call (V : ByteArray) (w : World) (hs : V.size ≤ 1000000) (he : Ev w) : Calls Tryz.prog 20 #[.string V, .string ⟨#[13]⟩] w fun e w' => e = .returned (.bool (decide ((13 : UInt8) ∈ V.data.toList))) ∧ w = w' := by
  obtain ⟨m, hm⟩ := he.mx
  have h := Any.strings_Contains Tryz.lays144 V ⟨#[13]⟩ m w (by omega) hm
  rw [show (⟨#[13]⟩ : ByteArray).data.toList = [13] from rfl, contains_one] at h
  exact h.mono fun e w' ⟨h1, h2⟩ => ⟨h1, h2.symm⟩
theorem doc_told8 {S : ByteArray} {L : List Ptr.Nd} {x y : Int} {n : Nat} (h : Ppa.documentL S.data.toList = (L, x, y)) (hn : L.length = n) (hs : S.size ≤ 1000000) (wx : World) (hx : Ev wx) : Calls Tryz.prog 19 #[.string S] wx fun e w' => Below wx.heap.size wx w' ∧ ∃ A c, e = .returned (.tuple #[.slice A n c, .agg #[.int .i64 x, .int .i64 y]]) ∧ w'.ownsRow wx.heap.size 32 4 (.slice A n c) n (ndsC L) := by
  have h' := document_any S wx hx hs
  rw [h] at h'
  subst hn
  exact h'
theorem lines_sum (l : List Ptr.Nd) : ∀ k, k ≤ l.length → Wpr.sumN ((linesN l).take k) ≤ Wpr.sumN (l.take k)
  | 0, _ => by simp [Wpr.sumN]
  | k + 1, h => by
    have ih := lines_sum l k (by omega)
    rw [Wpr.sumN_step (l := linesN l) (by rw [lines_len]; omega), Wpr.sumN_step (l := l) (by omega), lines_nam, lines_val]
    have := lin_len (kin l k) (val l k)
    omega
theorem lines_fit {l : List Ptr.Nd} (h : FitP l) : FitP (linesN l) := fun i => by
  obtain ⟨h1, h2, h3⟩ := h i
  rw [lines_nam, lines_val, lines_kin]
  have := lin_len (kin l i) (val l i)
  exact ⟨h1, by omega, h3⟩
/-- what the statement compares: two texts are one, or the first has a carriage return -/
theorem same_text {l : List Ptr.Nd} (h : chk l true = 0) (P R : ByteArray) (hP : P.data.toList = Ppr.prN l 0) (hR : R.data.toList = Ppr.prN (linesN l) 0) : (R.toList == P.toList) = true ∨ ((R.toList == P.toList) = false ∧ decide ((13 : UInt8) ∈ P.data.toList) = true) := by
  by_cases h13 : (13 : UInt8) ∈ P.data.toList
  · cases h : (R.toList == P.toList) with
    | true => exact .inl rfl
    | false => exact .inr ⟨rfl, by simp [h13]⟩
  · left
    rw [hP] at h13
    have e := cr_doc h h13
    rw [e, ← hP] at hR
    rw [ByteArray.toList_eq, ByteArray.toList_eq, hR]
    simp
set_option maxRecDepth 100000 in
set_option maxHeartbeats 8000000 in
theorem law_back (A : Option Addr) (l : List Ptr.Nd) (c : Nat) (w : World) (hr : RdN w A l) (hc : A = none → c = 0) (hlc : l.length ≤ c) (hp : FitP l) (hf : Wpr.FitW l) (he : Ev w) (hR : Wtr.Rules w) :
    Calls Tryz.prog 5 #[.slice A l.length c] w fun e w' => e = .returned (.bool true) ∧ Below w.heap.size w w' := by
  have HT := Kept.mk he
  have HR := Kept.mk (tenv8 he hR)
  have HN := Kept.mk hr
  have HC := Kept.mk hc
  have CG := Kept.mk (fun wx (h : Below w.heap.size w wx) => Wpr.great_any A l c wx (hr.below h) hf)
  have HP := Kept.mk hp
  clear he hR hr hc hf hp
  go_enter Tryz.func5, Tryz.ntmps5
  go_wp2_with (fail)
  refine (Wpr.awake_any _ HR.out).mono ?_; rintro e w1 ⟨rfl, hb1⟩
  have B1 := Kept.mk hb1
  clear hb1
  go_wp2_with (fail)
  refine (CG.out _ B1.out).mono ?_; rintro e w2 ⟨⟨b, rfl, hb, hb2⟩⟩
  have B2 := Kept.mk (below_step B1.out hb2)
  clear CG hb2 B1
  cases b with
  | true =>
    go_wp2_with (fail)
    go_ret
    exact ⟨rfl, B2.out⟩
  | false =>
    obtain ⟨hl, hs⟩ := hb rfl
    have hZ := Wpr.sumN_all hl hs
    have hl2 : l.length ≤ 100000 := by omega
    have CP := Kept.mk (fun wx (h : Below w.heap.size w wx) => Wpr.Print_any A l c wx (HN.out.below h) hl2 HP.out (HR.out.below h) hZ)
    have CK := Kept.mk (fun wx (h : Below w.heap.size w wx) => check_any A l c wx (HN.out.below h) hl2 HP.out (HR.out.below h))
    have HS := Kept.mk hs
    clear hb hs hZ
    by_cases h0 : chk l true = 0
    · have hp0 : Ppr.prR l = (Ppr.prN l 0, 0) := if_pos h0
      rw [hp0] at CP
      rw [h0] at CK
      have hu0 : Ppr.prR (linesN l) = (Ppr.prN (linesN l) 0, 0) := if_pos (lines_chk l h0)
      have hul := lines_len l
      have hS1 := lines_prN l 0
      obtain ⟨P, hP⟩ : ∃ P : ByteArray, P = ⟨(Ppr.prN l 0).toArray⟩ := ⟨_, rfl⟩
      obtain ⟨R, hR⟩ : ∃ R : ByteArray, R = ⟨(Ppr.prN (linesN l) 0).toArray⟩ := ⟨_, rfl⟩
      have hPl : P.data.toList = Ppr.prN l 0 := by rw [hP]
      have hRl : R.data.toList = Ppr.prN (linesN l) 0 := by rw [hR]
      have hPs := size_len P
      have hRs := size_len R
      have HQ := Kept.mk (same_text h0 P R hPl hRl)
      have hdoc := doc_pr h0
      have hdoc2 := doc_pr (lines_chk l h0)
      rw [lines_lines] at hdoc2
      rw [hPl] at hPs
      rw [hRl] at hRs
      rw [← hPl] at hdoc
      rw [← hRl] at hdoc2
      rw [hPl, hPs] at hdoc
      rw [hRl, hRs] at hdoc2
      rw [← hPl] at hdoc
      rw [← hRl] at hdoc2
      simp only at CP
      rw [← hP] at CP
      by_cases hbig : 65536 < P.size
      · have hbig' : (65536 : Int) < (P.size : Int) := by omega
        clear hdoc hdoc2 HQ hP hR hPl hRl hPs hRs hS1 hu0 hul hp0 h0
        go_wp2_with (fail)
        refine (CP.out _ B2.out).mono ?_; rintro e w3 ⟨rfl, hb3⟩
        have B3 := Kept.mk (below_step B2.out hb3)
        clear hb3
        go_wp2_with (fail)
        refine (CK.out _ B3.out).mono ?_; rintro e w4 ⟨rfl, hb4⟩
        have B4 := Kept.mk (below_step B3.out hb4)
        clear hb4
        go_wp2_with (fail)
        go_ret
        exact ⟨rfl, B4.out⟩
      have hbig' : ¬ (65536 : Int) < (P.size : Int) := by omega
      have C1 := Kept.mk (doc_told8 (n := l.length) (hdoc (by omega)) hul (by omega))
      have C2 := Kept.mk (doc_told8 (n := l.length) (hdoc2 (by omega)) hul (by omega))
      have CU : Kept (∀ A1 c1 wx, TEnv wx → RdN wx A1 (linesN l) → Calls Tryz.prog 15 #[.slice A1 l.length c1] wx fun e w' => e = .returned (.tuple #[.string R, .int .i64 0]) ∧ Below wx.heap.size wx w') := ⟨fun A1 c1 wx hE hr => by
        have hz : Wpr.sumN (linesN l) ≤ 60000 := by
          have h1 := lines_sum l l.length (Nat.le_refl _)
          have h2 := HS.out
          rw [List.take_length] at h1
          rw [List.take_of_length_le (by rw [hul]; exact Nat.le_refl _)] at h1
          omega
        have h := Wpr.Print_any A1 (linesN l) c1 wx hr (by omega) (lines_fit HP.out) hE (Wpr.sumN_all (by omega) hz)
        rw [hu0, hul] at h
        rw [hR]
        exact h⟩
      have CL : Kept (∀ wx, Below w.heap.size w wx → Calls Tryz.prog 17 #[.slice A l.length c] wx fun e w' => ∃ A' c', e = .returned (.slice A' l.length c') ∧ w'.ownsRow wx.heap.size 32 4 (.slice A' l.length c') l.length (ndsC (linesN l)) ∧ Below wx.heap.size wx w') := ⟨fun wx h => lines_any A l c wx (HN.out.below h) HC.out hlc hl (fun k hk => val_len (Ppr.chk_all h0) hk) (HT.out.below h)⟩
      have CS : Kept (∀ A1 A2 c1 c2 wx, RdN wx A1 (linesN l) → RdN wx A2 (linesN l) → Calls Tryz.prog 16 #[.slice A1 l.length c1, .slice A2 l.length c2] wx fun e w' => e = .returned (.bool true) ∧ Below wx.heap.size wx w') := ⟨fun A1 A2 c1 c2 wx h1 h2 => by
        have h := same_rd (linesN l) A1 A2 c1 c2 wx h1 h2 (by omega)
        rw [hul] at h
        exact h⟩
      have CC := Kept.mk (fun wx => cr_call P wx (by omega))
      have hE := eql_fault 0 0
      generalize linesN l = U at *
      clear hdoc hdoc2 hP hR hPl hRl hPs hRs hS1 hu0 hul hp0 h0
      go_wp2_with (fail)
      refine (CP.out _ B2.out).mono ?_; rintro e w3 ⟨rfl, hb3⟩
      have B3 := Kept.mk (below_step B2.out hb3)
      clear hb3
      go_wp2_with (fail)
      refine (CK.out _ B3.out).mono ?_; rintro e w4 ⟨rfl, hb4⟩
      have B4 := Kept.mk (below_step B3.out hb4)
      clear hb4 B3
      go_wp2_with (fail)
      refine (C1.out _ (HT.out.below B4.out)).mono ?_; rintro e w5 ⟨hb5, A5, c5, rfl, ho5⟩
      have D5 := (Below.refl w5.heap.size w5).alloc (Nat.le_refl _) (.cells #[.int .i64 0, .int .i64 0] 26)
      have B5 := Kept.mk (below_step (below_step B4.out hb5) D5)
      have V5 := Kept.mk (Fv.make w5 0 0)
      have O5 := Kept.mk (rdn_of_own (own_below ho5 D5))
      clear hb5 ho5 D5 B4
      go_wp2_with (fail)
      refine (CU.out _ _ _ (HR.out.below B5.out) O5.out).mono ?_; rintro e w6 ⟨rfl, hb6⟩
      have B6 := Kept.mk (below_step B5.out hb6)
      have O6 := Kept.mk (O5.out.below hb6)
      have V6 := Kept.mk (V5.out.below hb6)
      clear hb6 B5 O5 V5
      go_wp2_with (fail)
      refine (C2.out _ (HT.out.below B6.out)).mono ?_; rintro e w7 ⟨hb7, A7, c7, rfl, ho7⟩
      have D7 := (Below.refl w7.heap.size w7).alloc (Nat.le_refl _) (.cells #[.int .i64 0, .int .i64 0] 26)
      have B7 := Kept.mk (below_step (below_step B6.out hb7) D7)
      have V7 := Kept.mk (Fv.make w7 0 0)
      have O7 := Kept.mk (rdn_of_own (own_below ho7 D7))
      have P7 := Kept.mk ((O6.out.below hb7).below D7)
      have U7 := (V6.out.below hb7).below D7
      have K7 := Kept.mk U7
      have p0 := U7.c0
      have p1 := U7.c1
      clear hb7 ho7 D7 B6 O6 V6 U7
      go_wp2_with (fail)
      refine (CL.out _ B7.out).mono ?_; rintro e w8 ⟨A8, c8, rfl, ho8, hb8⟩
      have B8 := Kept.mk (below_step B7.out hb8)
      have O8 := Kept.mk (O7.out.below hb8)
      have P8 := Kept.mk (P7.out.below hb8)
      have V8 := Kept.mk (V7.out.below hb8)
      have Q8 := Kept.mk (rdn_of_own ho8)
      clear hb8 ho8 B7 O7 P7 V7 K7 p0 p1
      go_wp2_with (fail)
      refine (CS.out _ _ _ _ _ P8.out Q8.out).mono ?_; rintro e w9 ⟨rfl, hb9⟩
      have B9 := Kept.mk (below_step B8.out hb9)
      have O9 := Kept.mk (O8.out.below hb9)
      have P9 := Kept.mk (P8.out.below hb9)
      have V9 := V8.out.below hb9
      have q0 := V9.c0
      have q1 := V9.c1
      clear hb9 B8 O8 P8 V8 Q8 V9
      go_wp2_with (fail)
      refine (CS.out _ _ _ _ _ O9.out P9.out).mono ?_; rintro e w10 ⟨rfl, hb10⟩
      have B10 := Kept.mk (below_step B9.out hb10)
      clear hb10 B9 O9 P9 q0 q1
      rcases HQ.out with hq | ⟨hq, hq2⟩
      · go_wp2_with (fail)
        go_ret
        exact ⟨rfl, B10.out⟩
      · have C13 := CC.out w10 (HT.out.below B10.out)
        rw [hq2] at C13
        have C13 := Kept.mk C13
        go_wp2_with (fail)
        refine C13.out.mono ?_; rintro e w11 ⟨rfl, rfl⟩
        go_wp2_with (fail)
        go_ret
        exact ⟨rfl, B10.out⟩
    · have hp0 : Ppr.prR l = ([], 4) := if_neg h0
      rw [hp0] at CP
      have h0b : (chk l true == 0) = false := by simpa using h0
      generalize chk l true = C at CK h0b h0
      go_wp2_with (fail)
      refine (CP.out _ B2.out).mono ?_; rintro e w3 ⟨rfl, hb3⟩
      have B3 := Kept.mk (below_step B2.out hb3)
      clear hb3
      go_wp2_with (fail)
      refine (CK.out _ B3.out).mono ?_; rintro e w4 ⟨rfl, hb4⟩
      have B4 := Kept.mk (below_step B3.out hb4)
      clear hb4
      go_wp2_with (fail)
      go_ret
      exact ⟨rfl, B4.out⟩
end Go.Proofs.YtemfmidhekdekaaGreatDoor.Wps
