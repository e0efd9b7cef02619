/- The walk over ParseBlanks (chapter 07). -/
import Derived.Test.YtmdbjoebcolcfaaDoorParseMu
import Derived.Test.YtmdbjoebcolcfaaDoorParseCu
namespace Go.Proofs.YtmdbjoebcolcfaaDoor.Wps
open Go Go.RowKit Go.Proofs.YtmdbjoebcolcfaaDoor.Kb Go.Proofs.YtmdbjoebcolcfaaDoor.Wch Go.Proofs.YtmdbjoebcolcfaaDoor.Wtr Go.Proofs.YtmdbjoebcolcfaaDoor.Flt

theorem rdn_pre {w : World} {A : Option Addr} {L : List Ptr.Nd} {x : Ptr.Nd} (h : RdN w A (L ++ [x])) : RdN w A L := by
  intro _
  obtain ⟨b, off, hA, hc⟩ := h (by simp)
  exact ⟨b, off, hA, fun j y hj => hc j y (by rw [List.getElem?_append_left (List.getElem?_eq_some_iff.1 hj).1]; exact hj)⟩
theorem rdn_last {w : World} {A : Option Addr} {L : List Ptr.Nd} {x : Ptr.Nd} {n : Nat} (hn : L.length = n) (h : RdN w A (L ++ [x])) : ∃ b off, A = some ⟨b, off, none⟩ ∧ NdAt w b (off + n * 4) x := by
  obtain ⟨b, off, hA, hc⟩ := h (by simp)
  exact ⟨b, off, hA, hc n x (by rw [← hn]; simp)⟩
theorem same_told {L : List Ptr.Nd} {n : Nat} (hn : L.length = n) (hl : n ≤ 1000000) (A1 A2 : Option Addr) (c1 c2 : Nat) (w : World) (h1 : RdN w A1 L) (h2 : RdN w A2 L) : Calls Tryd.prog 7 #[.slice A1 n c1, .slice A2 n c2] w fun e w' => e = .returned (.bool true) ∧ Below w.heap.size w w' := by
  subst hn
  exact same_rd L A1 A2 c1 c2 w h1 h2 hl
set_option maxRecDepth 100000 in
set_option maxHeartbeats 4000000 in
theorem law_blanks (s : ByteArray) (w : World) (hz : s.size ≤ 140737488355328) (he : Ev w) :
    Calls Tryd.prog 4 #[.string s] w fun e w' => e = .returned (.bool true) ∧ Below w.heap.size w w' := by
  have HT := Kept.mk he
  clear he
  by_cases hs : 6000 < s.size
  · have hs' : (6000 : Int) < (s.size : Int) := by omega
    go_enter Tryd.func4, Tryd.ntmps4
    go_wp2_with (fail)
    refine (awake_any _ HT.out).mono ?_; rintro e w1 ⟨rfl, hb1⟩
    go_wp2_with (fail)
    go_ret
    exact ⟨rfl, hb1⟩
  have hs' : ¬ (6000 : Int) < (s.size : Int) := by omega
  have hl : s.data.toList.length ≤ 6000 := by rw [size_len]; omega
  obtain ⟨L, x, y, hL⟩ : ∃ L x y, Ppa.documentL s.data.toList = (L, x, y) := ⟨_, _, _, rfl⟩
  obtain ⟨n, hn⟩ : ∃ n, L.length = n := ⟨_, rfl⟩
  have hnl : n ≤ 16384 := by rw [← hn]; exact (Ppa.document_lens hL).1
  obtain ⟨L1, x1, y1, hL1⟩ : ∃ L x y, Ppa.documentL (s ++ ⟨#[32, 10, 9, 13]⟩).data.toList = (L, x, y) := ⟨_, _, _, rfl⟩
  obtain ⟨n1, hn1⟩ : ∃ n, L1.length = n := ⟨_, rfl⟩
  have hE1 : (s ++ ⟨#[32, 10, 9, 13]⟩).data.toList = s.data.toList ++ Ppa.wsL := by simp [Ppa.wsL]
  have hE2 : (s ++ ⟨#[60, 33, 45, 45, 120, 45, 45, 62]⟩).data.toList = s.data.toList ++ Ppa.cmL := by simp [Ppa.cmL]
  have CD := Kept.mk (doc_told hL hn (by omega))
  have CD1 := Kept.mk (doc_told hL1 hn1 (by rw [ByteArray.size_append]; show s.size + 4 ≤ _; omega))
  have zs1 : s.size + (⟨#[32, 10, 9, 13]⟩ : ByteArray).size ≤ 9223372036854775807 := by show s.size + 4 ≤ _; omega
  have zs2 : s.size + (⟨#[60, 33, 45, 45, 120, 45, 45, 62]⟩ : ByteArray).size ≤ 9223372036854775807 := by show s.size + 8 ≤ _; omega
  by_cases hx : x = 130
  · subst hx
    clear hL hL1 hn hn1 hE1 hE2
    go_enter Tryd.func4, Tryd.ntmps4
    go_wp2_with (fail)
    refine (awake_any _ HT.out).mono ?_; rintro e w1 ⟨rfl, hb1⟩
    have B1 := Kept.mk hb1
    clear hb1
    go_wp2_with (fail)
    refine (CD.out _ (HT.out.below B1.out)).mono ?_; rintro e w2 ⟨hb2, A2, c2, rfl, ho2⟩
    have D2 := (Below.refl w2.heap.size w2).alloc (Nat.le_refl _) (.cells #[.int .i64 130, .int .i64 y] 26)
    have B2 := Kept.mk (below_step (below_step B1.out hb2) D2)
    have V2 := Fv.make w2 130 y
    clear hb2 ho2 D2
    go_wp2_with (fail)
    refine (CD1.out _ (HT.out.below B2.out)).mono ?_; rintro e w3 ⟨hb3, A3, c3, rfl, ho3⟩
    have D3 := (Below.refl w3.heap.size w3).alloc (Nat.le_refl _) (.cells #[.int .i64 x1, .int .i64 y1] 26)
    have B3 := Kept.mk (below_step (below_step B2.out hb3) D3)
    have V2b := (V2.below hb3).below D3
    have p0 := V2b.c0
    clear hb3 ho3 D3 V2
    go_wp2_with (fail)
    go_ret
    exact ⟨rfl, B3.out⟩
  have hbl := Ppa.blanks_law hl hL hx
  rw [hE1, hbl] at hL1
  injection hL1 with h1 hL1
  injection hL1 with h2 h3
  subst h1 h2 h3
  obtain rfl : n = n1 := by rw [← hn1, hn]
  have qE := fun wx => eql_fault x y wx
  by_cases hx0 : x = 0
  · subst hx0
    obtain ⟨rfl, hcm⟩ := Ppa.comment_law hl hL
    obtain ⟨L2, x2, y2, hL2⟩ : ∃ L x y, Ppa.documentL (s ++ ⟨#[60, 33, 45, 45, 120, 45, 45, 62]⟩).data.toList = (L, x, y) := ⟨_, _, _, rfl⟩
    obtain ⟨n2, hn2⟩ : ∃ n, L2.length = n := ⟨_, rfl⟩
    have CD2 := Kept.mk (doc_told hL2 hn2 (by rw [ByteArray.size_append]; show s.size + 8 ≤ _; omega))
    rw [hE2] at hL2
    have CM := Kept.mk (same_told hn (by omega))
    have qN := fun wx => neq_of_eql (eql_fault 0 0 wx)
    clear qE hbl
    rcases hcm with hcm | ⟨hcm, hfull⟩
    · rw [hcm] at hL2
      injection hL2 with h1 hL2
      injection hL2 with h2 h3
      subst h1 h2 h3
      obtain rfl : n2 = n + 1 := by rw [← hn2, List.length_append, hn]; rfl
      have qC := fun wx => eql_nd 5 ⟨#[]⟩ ⟨#[120]⟩ 0 wx
      have HN := Kept.mk hn
      clear hL hn hn1 hn2 hE1 hE2 hcm
      go_enter Tryd.func4, Tryd.ntmps4
      go_wp2_with (fail)
      refine (awake_any _ HT.out).mono ?_; rintro e w1 ⟨rfl, hb1⟩
      have B1 := Kept.mk hb1
      clear hb1
      go_wp2_with (fail)
      refine (CD.out _ (HT.out.below B1.out)).mono ?_; rintro e w2 ⟨hb2, A2, c2, rfl, ho2⟩
      have D2 := (Below.refl w2.heap.size w2).alloc (Nat.le_refl _) (.cells #[.int .i64 0, .int .i64 0] 26)
      have B2 := Kept.mk (below_step (below_step B1.out hb2) D2)
      have V2 := Fv.make w2 0 0
      have R2 := Kept.mk (RdN.below (rdn_of_own ho2) D2)
      clear hb2 ho2 D2
      go_wp2_with (fail)
      refine (CD1.out _ (HT.out.below B2.out)).mono ?_; rintro e w3 ⟨hb3, A3, c3, rfl, ho3⟩
      have D3 := (Below.refl w3.heap.size w3).alloc (Nat.le_refl _) (.cells #[.int .i64 0, .int .i64 0] 26)
      have B3 := Kept.mk (below_step (below_step B2.out hb3) D3)
      have V2b := (V2.below hb3).below D3
      have V3 := Fv.make w3 0 0
      have R2b := Kept.mk ((R2.out.below hb3).below D3)
      have R3 := Kept.mk (RdN.below (rdn_of_own ho3) D3)
      have p0 := V2b.c0
      clear hb3 ho3 D3 V2 R2
      go_wp2_with (fail)
      refine (CD2.out _ (HT.out.below B3.out)).mono ?_; rintro e w4 ⟨hb4, A4, c4, rfl, ho4⟩
      have D4 := (Below.refl w4.heap.size w4).alloc (Nat.le_refl _) (.cells #[.int .i64 0, .int .i64 0] 26)
      have B4 := Kept.mk (below_step (below_step B3.out hb4) D4)
      have V3b := (V3.below hb4).below D4
      have V4 := Fv.make w4 0 0
      have R2c := Kept.mk ((R2b.out.below hb4).below D4)
      have R3c := Kept.mk ((R3.out.below hb4).below D4)
      have hcap : n + 1 ≤ c4 := by obtain ⟨_, _, h, _⟩ := own_some ho4 (by omega); exact h
      have hcap2 : n ≤ c4 := by omega
      have R4 := Kept.mk (RdN.below (rdn_of_own ho4) D4)
      have u0 := V3b.c0
      have u1 := V3b.c1
      clear hb4 ho4 D4 V3 R2b R3 p0 V2b
      go_wp2_with (fail)
      obtain ⟨b4, o4, rfl, hN4⟩ := rdn_last HN.out R4.out
      have R4p := Kept.mk (rdn_pre R4.out)
      refine (CM.out A2 A3 c2 c3 _ R2c.out R3c.out).mono ?_; rintro e w5 ⟨rfl, hb5⟩
      have B5 := Kept.mk (below_step B4.out hb5)
      have V4b := V4.below hb5
      have R2d := Kept.mk (R2c.out.below hb5)
      have R4d := Kept.mk (R4p.out.below hb5)
      have N5 := Kept.mk (hN4.below hb5)
      have v0 := V4b.c0
      clear hb5 R2c R3c R4 R4p hN4 u0 u1 V3b V4
      go_wp2_with (fail)
      refine (CM.out _ _ _ _ _ R4d.out R2d.out).mono ?_; rintro e w6 ⟨rfl, hb6⟩
      have B6 := Kept.mk (below_step B5.out hb6)
      obtain ⟨x0, x1, x2, x3⟩ := N5.out.below hb6
      have n0 : (n : Int) < (n : Int) + 1 := by omega
      clear hb6 R2d R4d N5 v0 V4b
      go_wp2_with (fail)
      go_ret
      exact ⟨rfl, B6.out⟩
    · rw [hcm] at hL2
      injection hL2 with h1 hL2
      injection hL2 with h2 h3
      subst h1 h2 h3
      obtain rfl : 0 = n2 := hn2
      have e9 : ((n : Int) == 16384) = true := by rw [beq_iff_eq]; omega
      clear hL hn hn1 hE1 hE2 hcm hfull
      go_enter Tryd.func4, Tryd.ntmps4
      go_wp2_with (fail)
      refine (awake_any _ HT.out).mono ?_; rintro e w1 ⟨rfl, hb1⟩
      have B1 := Kept.mk hb1
      clear hb1
      go_wp2_with (fail)
      refine (CD.out _ (HT.out.below B1.out)).mono ?_; rintro e w2 ⟨hb2, A2, c2, rfl, ho2⟩
      have D2 := (Below.refl w2.heap.size w2).alloc (Nat.le_refl _) (.cells #[.int .i64 0, .int .i64 0] 26)
      have B2 := Kept.mk (below_step (below_step B1.out hb2) D2)
      have V2 := Fv.make w2 0 0
      have R2 := Kept.mk (RdN.below (rdn_of_own ho2) D2)
      clear hb2 ho2 D2
      go_wp2_with (fail)
      refine (CD1.out _ (HT.out.below B2.out)).mono ?_; rintro e w3 ⟨hb3, A3, c3, rfl, ho3⟩
      have D3 := (Below.refl w3.heap.size w3).alloc (Nat.le_refl _) (.cells #[.int .i64 0, .int .i64 0] 26)
      have B3 := Kept.mk (below_step (below_step B2.out hb3) D3)
      have V2b := (V2.below hb3).below D3
      have V3 := Fv.make w3 0 0
      have R2b := Kept.mk ((R2.out.below hb3).below D3)
      have R3 := Kept.mk (RdN.below (rdn_of_own ho3) D3)
      have p0 := V2b.c0
      clear hb3 ho3 D3 V2 R2
      go_wp2_with (fail)
      refine (CD2.out _ (HT.out.below B3.out)).mono ?_; rintro e w4 ⟨hb4, A4, c4, rfl, ho4⟩
      have D4 := (Below.refl w4.heap.size w4).alloc (Nat.le_refl _) (.cells #[.int .i64 3, .int .i64 0] 26)
      have B4 := Kept.mk (below_step (below_step B3.out hb4) D4)
      have V3b := (V3.below hb4).below D4
      have V4 := Fv.make w4 3 0
      have R2c := Kept.mk ((R2b.out.below hb4).below D4)
      have R3c := Kept.mk ((R3.out.below hb4).below D4)
      have u0 := V3b.c0
      have u1 := V3b.c1
      clear hb4 ho4 D4 V3 R2b R3 p0 V2b
      go_wp2_with (fail)
      refine (CM.out A2 A3 c2 c3 _ R2c.out R3c.out).mono ?_; rintro e w5 ⟨rfl, hb5⟩
      have B5 := Kept.mk (below_step B4.out hb5)
      have V4b := V4.below hb5
      have v0 := V4b.c0
      clear hb5 R2c R3c u0 u1 V3b V4
      go_wp2_with (fail)
      go_ret
      exact ⟨rfl, B5.out⟩
  · have e0 : (x != 0) = true := by simpa using hx0
    have e1 : (x == 130) = false := by simpa using hx
    clear hL hn hn1 hE1 hE2 hbl
    go_enter Tryd.func4, Tryd.ntmps4
    go_wp2_with (fail)
    refine (awake_any _ HT.out).mono ?_; rintro e w1 ⟨rfl, hb1⟩
    have B1 := Kept.mk hb1
    clear hb1
    go_wp2_with (fail)
    refine (CD.out _ (HT.out.below B1.out)).mono ?_; rintro e w2 ⟨hb2, A2, c2, rfl, ho2⟩
    have D2 := (Below.refl w2.heap.size w2).alloc (Nat.le_refl _) (.cells #[.int .i64 x, .int .i64 y] 26)
    have B2 := Kept.mk (below_step (below_step B1.out hb2) D2)
    have V2 := Fv.make w2 x y
    clear hb2 ho2 D2
    go_wp2_with (fail)
    refine (CD1.out _ (HT.out.below B2.out)).mono ?_; rintro e w3 ⟨hb3, A3, c3, rfl, ho3⟩
    have D3 := (Below.refl w3.heap.size w3).alloc (Nat.le_refl _) (.cells #[.int .i64 x, .int .i64 y] 26)
    have B3 := Kept.mk (below_step (below_step B2.out hb3) D3)
    have V2b := (V2.below hb3).below D3
    have V3 := Fv.make w3 x y
    have p0 := V2b.c0
    have p1 := V2b.c1
    have r0 := V3.c0
    have r1 := V3.c1
    clear hb3 ho3 D3 V2
    go_wp2_with (fail)
    go_ret
    exact ⟨rfl, B3.out⟩
end Go.Proofs.YtmdbjoebcolcfaaDoor.Wps
