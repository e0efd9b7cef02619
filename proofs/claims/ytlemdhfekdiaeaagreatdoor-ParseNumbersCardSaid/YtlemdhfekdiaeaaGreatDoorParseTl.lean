/- The walk over ParseTells: the program's Document and Fragment are the document's own (chapter 07). -/
import Derived.Test.YtlemdhfekdiaeaaGreatDoorParseLs
import Derived.Test.YtlemdhfekdiaeaaGreatDoorReadVb
namespace Go.Proofs.YtlemdhfekdiaeaaGreatDoor.Wps
open Go Go.RowKit Go.Proofs.YtlemdhfekdiaeaaGreatDoor.Kb Go.Proofs.YtlemdhfekdiaeaaGreatDoor.Wch Go.Proofs.YtlemdhfekdiaeaaGreatDoor.Wtr Go.Proofs.YtlemdhfekdiaeaaGreatDoor.Flt

theorem own_lower7 {w : World} {B B' n k : Nat} {e : TypeId} {v : Value} {xs : List Value} (h : w.ownsRow B e k v n xs) (hB : B' ≤ B) : w.ownsRow B' e k v n xs := own_mono h hB
set_option maxRecDepth 100000 in
set_option maxHeartbeats 2000000 in
theorem same7_any (L : List Ptr.Nd) (x y : Int) (A1 A2 : Option Addr) (c1 c2 n B1 B2 : Nat) (w : World) (hn : L.length = n) (hl : n ≤ 1000000) (h1 : w.ownsRow B1 35 4 (.slice A1 n c1) n (ndsC L)) (h2 : w.ownsRow B2 35 4 (.slice A2 n c2) n (ndsC L)) :
    Calls Tryz.prog 11 #[.slice A1 n c1, .agg #[.int .i64 x, .int .i64 y], .slice A2 n c2, .agg #[.int .i64 x, .int .i64 y]] w fun e w' => e = .returned (.bool true) ∧ Below w.heap.size w w' := by
  have qe := fun wx => eql_fault x y wx
  have CM : Kept (∀ (wx : World), Below w.heap.size w wx → Calls Tryz.prog 15 #[.slice A1 n c1, .slice A2 n c2] wx fun e w' => e = .returned (.bool true) ∧ Below wx.heap.size wx w') := ⟨fun wx hb => by
    subst hn
    exact same_rd L A1 A2 c1 c2 wx (rdn_of_own (own_below h1 hb)) (rdn_of_own (own_below h2 hb)) (by omega)⟩
  clear h1 h2 hn
  go_enter Tryz.func11, Tryz.ntmps11
  go_wp2_with (fail)
  refine (CM.out _ (((Below.refl w.heap.size w).alloc (Nat.le_refl _) _).alloc (by simp) _)).mono ?_; rintro e w1 ⟨rfl, hb1⟩
  have B1 := Kept.mk ((((Below.refl w.heap.size w).alloc (Nat.le_refl _) (.cells #[.int .i64 x, .int .i64 y] 26)).alloc (by simp) (.cells #[.int .i64 x, .int .i64 y] 26)).trans (hb1.mono (by simp; omega)))
  clear hb1
  go_wp2_with (fail)
  go_ret
  exact ⟨rfl, B1.out⟩
set_option maxRecDepth 100000 in
set_option maxHeartbeats 4000000 in
theorem law_tells (s : ByteArray) (w : World) (he : Ev w) :
    Calls Tryz.prog 3 #[.string s] w fun e w' => e = .returned (.bool true) ∧ Below w.heap.size w w' := by
  have HT := Kept.mk he
  clear he
  by_cases hs : 6000 < s.size
  · have hs' : (6000 : Int) < (s.size : Int) := by omega
    go_enter Tryz.func3, Tryz.ntmps3
    go_wp2_with (fail)
    refine (awake_any _ HT.out).mono ?_; rintro e w1 ⟨rfl, hb1⟩
    go_wp2_with (fail)
    go_ret
    exact ⟨rfl, hb1⟩
  have hs' : ¬ (6000 : Int) < (s.size : Int) := by omega
  obtain ⟨L, x, y, hL⟩ : ∃ L x y, Ppa.documentL s.data.toList = (L, x, y) := ⟨_, _, _, rfl⟩
  obtain ⟨M, x', y', hM⟩ : ∃ L x y, Ppa.fragmentL s.data.toList = (L, x, y) := ⟨_, _, _, rfl⟩
  obtain ⟨n, hn⟩ : ∃ n, L.length = n := ⟨_, rfl⟩
  obtain ⟨m, hm⟩ : ∃ m, M.length = m := ⟨_, rfl⟩
  have l1 := Ppa.document_lens hL
  have l2 := Ppa.fragment_lens hM
  rw [size_len] at l1 l2
  have hnb : n ≤ 1000000 := by omega
  have hmb : m ≤ 1000000 := by omega
  have C1 : Kept (∀ wx, Ev wx → Calls Tryz.prog 7 #[.string s] wx fun e w' => Below wx.heap.size wx w' ∧ ∃ A c, e = .returned (.tuple #[.slice A n c, .agg #[.int .i64 x, .int .i64 y]]) ∧ w'.ownsRow wx.heap.size 35 4 (.slice A n c) n (ndsC L)) := ⟨fun wx hx => by
    have h := document_any s wx hx (by omega)
    rw [hL] at h
    subst hn
    exact h⟩
  have C2 : Kept (∀ wx, Calls Tryz.prog 8 #[.string s] wx fun e w' => Below wx.heap.size wx w' ∧ ∃ A c, e = .returned (.tuple #[.slice A n c, .agg #[.int .i64 x, .int .i64 y]]) ∧ w'.ownsRow wx.heap.size 35 4 (.slice A n c) n (ndsC L)) := ⟨fun wx => by
    have h := Wrd.rdocumentT_any s wx
    rw [hL] at h
    subst hn
    exact h⟩
  have C3 : Kept (∀ wx, Ev wx → Calls Tryz.prog 9 #[.string s] wx fun e w' => Below wx.heap.size wx w' ∧ ∃ A c, e = .returned (.tuple #[.slice A m c, .agg #[.int .i64 x', .int .i64 y']]) ∧ w'.ownsRow wx.heap.size 35 4 (.slice A m c) m (ndsC M)) := ⟨fun wx hx => by
    have h := fragment_any s wx hx (by omega)
    rw [hM] at h
    subst hm
    exact h⟩
  have C4 : Kept (∀ wx, Calls Tryz.prog 10 #[.string s] wx fun e w' => Below wx.heap.size wx w' ∧ ∃ A c, e = .returned (.tuple #[.slice A m c, .agg #[.int .i64 x', .int .i64 y']]) ∧ w'.ownsRow wx.heap.size 35 4 (.slice A m c) m (ndsC M)) := ⟨fun wx => by
    have h := Wrd.rfragmentT_any s wx
    rw [hM] at h
    subst hm
    exact h⟩
  have C5 : Kept (∀ (A1 A2 : Option Addr) (c1 c2 B1 B2 : Nat) (wx : World), wx.ownsRow B1 35 4 (.slice A1 n c1) n (ndsC L) → wx.ownsRow B2 35 4 (.slice A2 n c2) n (ndsC L) → Calls Tryz.prog 11 #[.slice A1 n c1, .agg #[.int .i64 x, .int .i64 y], .slice A2 n c2, .agg #[.int .i64 x, .int .i64 y]] wx fun e w' => e = .returned (.bool true) ∧ Below wx.heap.size wx w') := ⟨fun A1 A2 c1 c2 B1 B2 wx h1 h2 => same7_any L x y A1 A2 c1 c2 n B1 B2 wx hn hnb h1 h2⟩
  have C6 : Kept (∀ (A1 A2 : Option Addr) (c1 c2 B1 B2 : Nat) (wx : World), wx.ownsRow B1 35 4 (.slice A1 m c1) m (ndsC M) → wx.ownsRow B2 35 4 (.slice A2 m c2) m (ndsC M) → Calls Tryz.prog 11 #[.slice A1 m c1, .agg #[.int .i64 x', .int .i64 y'], .slice A2 m c2, .agg #[.int .i64 x', .int .i64 y']] wx fun e w' => e = .returned (.bool true) ∧ Below wx.heap.size wx w') := ⟨fun A1 A2 c1 c2 B1 B2 wx h1 h2 => same7_any M x' y' A1 A2 c1 c2 m B1 B2 wx hm hmb h1 h2⟩
  clear hL hM l1 l2 hn hm hnb hmb
  go_enter Tryz.func3, Tryz.ntmps3
  go_wp2_with (fail)
  refine (C1.out _ HT.out).mono ?_; rintro e w1 ⟨hb1, A1, c1, rfl, ho1⟩
  have D1 := (Below.refl w1.heap.size w1).alloc (Nat.le_refl _) (.cells #[.int .i64 x, .int .i64 y] 26)
  have B1 := Kept.mk (below_step hb1 D1)
  have O1_1 := Kept.mk (own_below ho1 D1)
  have V1_1 := Kept.mk (Fv.make w1 x y)
  clear hb1 ho1 D1
  go_wp2_with (fail)
  refine (C2.out _).mono ?_; rintro e w2 ⟨hb2, A2, c2, rfl, ho2⟩
  have D2 := (Below.refl w2.heap.size w2).alloc (Nat.le_refl _) (.cells #[.int .i64 x, .int .i64 y] 26)
  have B2 := Kept.mk (below_step (below_step B1.out hb2) D2)
  have O2_1 := Kept.mk (own_below (own_below O1_1.out hb2) D2)
  have V2_1 := Kept.mk ((V1_1.out.below hb2).below D2)
  have O2_2 := Kept.mk (own_below (own_lower7 ho2 B1.out.size) D2)
  have V2_2 := Kept.mk (Fv.make w2 x y)
  clear hb2 ho2 D2 O1_1 V1_1
  go_wp2_with (fail)
  refine (C3.out _ (HT.out.below B2.out)).mono ?_; rintro e w3 ⟨hb3, A3, c3, rfl, ho3⟩
  have D3 := (Below.refl w3.heap.size w3).alloc (Nat.le_refl _) (.cells #[.int .i64 x', .int .i64 y'] 26)
  have B3 := Kept.mk (below_step (below_step B2.out hb3) D3)
  have O3_1 := Kept.mk (own_below (own_below O2_1.out hb3) D3)
  have V3_1 := Kept.mk ((V2_1.out.below hb3).below D3)
  have O3_2 := Kept.mk (own_below (own_below O2_2.out hb3) D3)
  have V3_2 := Kept.mk ((V2_2.out.below hb3).below D3)
  have O3_3 := Kept.mk (own_below (own_lower7 ho3 B2.out.size) D3)
  have V3_3 := Kept.mk (Fv.make w3 x' y')
  clear hb3 ho3 D3 O2_1 V2_1 O2_2 V2_2
  go_wp2_with (fail)
  refine (C4.out _).mono ?_; rintro e w4 ⟨hb4, A4, c4, rfl, ho4⟩
  have D4 := (Below.refl w4.heap.size w4).alloc (Nat.le_refl _) (.cells #[.int .i64 x', .int .i64 y'] 26)
  have B4 := Kept.mk (below_step (below_step B3.out hb4) D4)
  have O4_1 := Kept.mk (own_below (own_below O3_1.out hb4) D4)
  have V4_1 := Kept.mk ((V3_1.out.below hb4).below D4)
  have O4_2 := Kept.mk (own_below (own_below O3_2.out hb4) D4)
  have V4_2 := Kept.mk ((V3_2.out.below hb4).below D4)
  have O4_3 := Kept.mk (own_below (own_below O3_3.out hb4) D4)
  have V4_3 := Kept.mk ((V3_3.out.below hb4).below D4)
  have O4_4 := Kept.mk (own_below (own_lower7 ho4 B3.out.size) D4)
  have V4_4 := Kept.mk (Fv.make w4 x' y')
  clear hb4 ho4 D4 O3_1 V3_1 O3_2 V3_2 O3_3 V3_3
  have f10 := V4_1.out.c0
  have f11 := V4_1.out.c1
  have f20 := V4_2.out.c0
  have f21 := V4_2.out.c1
  have f30 := V4_3.out.c0
  have f31 := V4_3.out.c1
  have f40 := V4_4.out.c0
  have f41 := V4_4.out.c1
  go_wp2_with (fail)
  refine (C5.out _ _ _ _ _ _ _ O4_1.out O4_2.out).mono ?_; rintro e w5 ⟨rfl, hb5⟩
  have B5 := Kept.mk (below_step B4.out hb5)
  have P3 := Kept.mk (own_below O4_3.out hb5)
  have P4 := Kept.mk (own_below O4_4.out hb5)
  have V5_3 := V4_3.out.below hb5
  have V5_4 := V4_4.out.below hb5
  have g30 := V5_3.c0
  have g31 := V5_3.c1
  have g40 := V5_4.c0
  have g41 := V5_4.c1
  clear hb5
  go_wp2_with (fail)
  refine (C6.out _ _ _ _ _ _ _ P3.out P4.out).mono ?_; rintro e w6 ⟨rfl, hb6⟩
  have B6 := Kept.mk (below_step B5.out hb6)
  clear hb6
  go_wp2_with (fail)
  refine (awake_any _ (HT.out.below B6.out)).mono ?_; rintro e w7 ⟨rfl, hb7⟩
  have B7 := Kept.mk (below_step B6.out hb7)
  clear hb7
  go_wp2_with (fail)
  go_ret
  exact ⟨rfl, B7.out⟩
end Go.Proofs.YtlemdhfekdiaeaaGreatDoor.Wps
