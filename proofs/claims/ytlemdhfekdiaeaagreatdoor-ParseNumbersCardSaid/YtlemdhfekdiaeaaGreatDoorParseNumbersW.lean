/- The walk over ParseTells: the program's Document and Fragment are the document's own (chapter 07). Plain: what is told of the texts of ParseNumbers (chapter 07). The walk over ParseNumbers (chapter 07). -/
import Derived.Test.YtlemdhfekdiaeaaGreatDoorParseLs
import Derived.Test.YtlemdhfekdiaeaaGreatDoorReadVb
import Derived.Test.YtlemdhfekdiaeaaGreatDoorReadVa
import Derived.Lib.Repeat
import Derived.Test.YtlemdhfekdiaeaaGreatDoorShelfRep
namespace Go.Proofs.YtlemdhfekdiaeaaGreatDoor.Wps
open Go Go.RowKit Go.Proofs.YtlemdhfekdiaeaaGreatDoor.Kb Go.Proofs.YtlemdhfekdiaeaaGreatDoor.Wch Go.Proofs.YtlemdhfekdiaeaaGreatDoor.Wtr Go.Proofs.YtlemdhfekdiaeaaGreatDoor.Flt

theorem own_lower7 {w : World} {B B' n k : Nat} {e : TypeId} {v : Value} {xs : List Value} (h : w.ownsRow B e k v n xs) (hB : B' ≤ B) : w.ownsRow B' e k v n xs := own_mono h hB
set_option maxRecDepth 100000 in
set_option maxHeartbeats 2000000 in
theorem same7_any (L : List Ptr.Nd) (x y : Int) (A1 A2 : Option Addr) (c1 c2 n B1 B2 : Nat) (w : World) (hn : L.length = n) (hl : n ≤ 1000000) (h1 : w.ownsRow B1 35 4 (.slice A1 n c1) n (ndsC L)) (h2 : w.ownsRow B2 35 4 (.slice A2 n c2) n (ndsC L)) :
    Calls Tryz.prog 11 #[.slice A1 n c1, .agg #[.int .i64 x, .int .i64 y], .slice A2 n c2, .agg #[.int .i64 x, .int .i64 y]] w fun e w' => e = .returned (.bool true) ∧ Below w.heap.size w w' := by
  have qe := fun wx => eql_fault x y wx
  have CM : Kept (∀ (wx : World), Below w.heap.size w wx → Calls Tryz.prog 15 #[.slice A1 n c1, .slice A2 n c2] wx fun e w' => e = .returned (.bool true) ∧ Below wx.heap.size wx w') := ⟨fun wx hb => by
    subst hn
    exact same_rd L A1 A2 c1 c2 wx (rdn_of_own (own_below h1 hb)) (rdn_of_own (own_below h2 hb)) (by omega)⟩
  clear h1 h2 hn
  go_enter Tryz.func11, Tryz.ntmps11
  go_wp2_with (fail)
  refine (CM.out _ (((Below.refl w.heap.size w).alloc (Nat.le_refl _) _).alloc (by simp) _)).mono ?_; rintro e w1 ⟨rfl, hb1⟩
  have B1 := Kept.mk ((((Below.refl w.heap.size w).alloc (Nat.le_refl _) (.cells #[.int .i64 x, .int .i64 y] 26)).alloc (by simp) (.cells #[.int .i64 x, .int .i64 y] 26)).trans (hb1.mono (by simp; omega)))
  clear hb1
  go_wp2_with (fail)
  go_ret
  exact ⟨rfl, B1.out⟩
set_option maxRecDepth 100000 in
set_option maxHeartbeats 4000000 in
theorem law_tells (s : ByteArray) (w : World) (he : Ev w) :
    Calls Tryz.prog 3 #[.string s] w fun e w' => e = .returned (.bool true) ∧ Below w.heap.size w w' := by
  have HT := Kept.mk he
  clear he
  by_cases hs : 6000 < s.size
  · have hs' : (6000 : Int) < (s.size : Int) := by omega
    go_enter Tryz.func3, Tryz.ntmps3
    go_wp2_with (fail)
    refine (awake_any _ HT.out).mono ?_; rintro e w1 ⟨rfl, hb1⟩
    go_wp2_with (fail)
    go_ret
    exact ⟨rfl, hb1⟩
  have hs' : ¬ (6000 : Int) < (s.size : Int) := by omega
  obtain ⟨L, x, y, hL⟩ : ∃ L x y, Ppa.documentL s.data.toList = (L, x, y) := ⟨_, _, _, rfl⟩
  obtain ⟨M, x', y', hM⟩ : ∃ L x y, Ppa.fragmentL s.data.toList = (L, x, y) := ⟨_, _, _, rfl⟩
  obtain ⟨n, hn⟩ : ∃ n, L.length = n := ⟨_, rfl⟩
  obtain ⟨m, hm⟩ : ∃ m, M.length = m := ⟨_, rfl⟩
  have l1 := Ppa.document_lens hL
  have l2 := Ppa.fragment_lens hM
  rw [size_len] at l1 l2
  have hnb : n ≤ 1000000 := by omega
  have hmb : m ≤ 1000000 := by omega
  have C1 : Kept (∀ wx, Ev wx → Calls Tryz.prog 7 #[.string s] wx fun e w' => Below wx.heap.size wx w' ∧ ∃ A c, e = .returned (.tuple #[.slice A n c, .agg #[.int .i64 x, .int .i64 y]]) ∧ w'.ownsRow wx.heap.size 35 4 (.slice A n c) n (ndsC L)) := ⟨fun wx hx => by
    have h := document_any s wx hx (by omega)
    rw [hL] at h
    subst hn
    exact h⟩
  have C2 : Kept (∀ wx, Calls Tryz.prog 8 #[.string s] wx fun e w' => Below wx.heap.size wx w' ∧ ∃ A c, e = .returned (.tuple #[.slice A n c, .agg #[.int .i64 x, .int .i64 y]]) ∧ w'.ownsRow wx.heap.size 35 4 (.slice A n c) n (ndsC L)) := ⟨fun wx => by
    have h := Wrd.rdocumentT_any s wx
    rw [hL] at h
    subst hn
    exact h⟩
  have C3 : Kept (∀ wx, Ev wx → Calls Tryz.prog 9 #[.string s] wx fun e w' => Below wx.heap.size wx w' ∧ ∃ A c, e = .returned (.tuple #[.slice A m c, .agg #[.int .i64 x', .int .i64 y']]) ∧ w'.ownsRow wx.heap.size 35 4 (.slice A m c) m (ndsC M)) := ⟨fun wx hx => by
    have h := fragment_any s wx hx (by omega)
    rw [hM] at h
    subst hm
    exact h⟩
  have C4 : Kept (∀ wx, Calls Tryz.prog 10 #[.string s] wx fun e w' => Below wx.heap.size wx w' ∧ ∃ A c, e = .returned (.tuple #[.slice A m c, .agg #[.int .i64 x', .int .i64 y']]) ∧ w'.ownsRow wx.heap.size 35 4 (.slice A m c) m (ndsC M)) := ⟨fun wx => by
    have h := Wrd.rfragmentT_any s wx
    rw [hM] at h
    subst hm
    exact h⟩
  have C5 : Kept (∀ (A1 A2 : Option Addr) (c1 c2 B1 B2 : Nat) (wx : World), wx.ownsRow B1 35 4 (.slice A1 n c1) n (ndsC L) → wx.ownsRow B2 35 4 (.slice A2 n c2) n (ndsC L) → Calls Tryz.prog 11 #[.slice A1 n c1, .agg #[.int .i64 x, .int .i64 y], .slice A2 n c2, .agg #[.int .i64 x, .int .i64 y]] wx fun e w' => e = .returned (.bool true) ∧ Below wx.heap.size wx w') := ⟨fun A1 A2 c1 c2 B1 B2 wx h1 h2 => same7_any L x y A1 A2 c1 c2 n B1 B2 wx hn hnb h1 h2⟩
  have C6 : Kept (∀ (A1 A2 : Option Addr) (c1 c2 B1 B2 : Nat) (wx : World), wx.ownsRow B1 35 4 (.slice A1 m c1) m (ndsC M) → wx.ownsRow B2 35 4 (.slice A2 m c2) m (ndsC M) → Calls Tryz.prog 11 #[.slice A1 m c1, .agg #[.int .i64 x', .int .i64 y'], .slice A2 m c2, .agg #[.int .i64 x', .int .i64 y']] wx fun e w' => e = .returned (.bool true) ∧ Below wx.heap.size wx w') := ⟨fun A1 A2 c1 c2 B1 B2 wx h1 h2 => same7_any M x' y' A1 A2 c1 c2 m B1 B2 wx hm hmb h1 h2⟩
  clear hL hM l1 l2 hn hm hnb hmb
  go_enter Tryz.func3, Tryz.ntmps3
  go_wp2_with (fail)
  refine (C1.out _ HT.out).mono ?_; rintro e w1 ⟨hb1, A1, c1, rfl, ho1⟩
  have D1 := (Below.refl w1.heap.size w1).alloc (Nat.le_refl _) (.cells #[.int .i64 x, .int .i64 y] 26)
  have B1 := Kept.mk (below_step hb1 D1)
  have O1_1 := Kept.mk (own_below ho1 D1)
  have V1_1 := Kept.mk (Fv.make w1 x y)
  clear hb1 ho1 D1
  go_wp2_with (fail)
  refine (C2.out _).mono ?_; rintro e w2 ⟨hb2, A2, c2, rfl, ho2⟩
  have D2 := (Below.refl w2.heap.size w2).alloc (Nat.le_refl _) (.cells #[.int .i64 x, .int .i64 y] 26)
  have B2 := Kept.mk (below_step (below_step B1.out hb2) D2)
  have O2_1 := Kept.mk (own_below (own_below O1_1.out hb2) D2)
  have V2_1 := Kept.mk ((V1_1.out.below hb2).below D2)
  have O2_2 := Kept.mk (own_below (own_lower7 ho2 B1.out.size) D2)
  have V2_2 := Kept.mk (Fv.make w2 x y)
  clear hb2 ho2 D2 O1_1 V1_1
  go_wp2_with (fail)
  refine (C3.out _ (HT.out.below B2.out)).mono ?_; rintro e w3 ⟨hb3, A3, c3, rfl, ho3⟩
  have D3 := (Below.refl w3.heap.size w3).alloc (Nat.le_refl _) (.cells #[.int .i64 x', .int .i64 y'] 26)
  have B3 := Kept.mk (below_step (below_step B2.out hb3) D3)
  have O3_1 := Kept.mk (own_below (own_below O2_1.out hb3) D3)
  have V3_1 := Kept.mk ((V2_1.out.below hb3).below D3)
  have O3_2 := Kept.mk (own_below (own_below O2_2.out hb3) D3)
  have V3_2 := Kept.mk ((V2_2.out.below hb3).below D3)
  have O3_3 := Kept.mk (own_below (own_lower7 ho3 B2.out.size) D3)
  have V3_3 := Kept.mk (Fv.make w3 x' y')
  clear hb3 ho3 D3 O2_1 V2_1 O2_2 V2_2
  go_wp2_with (fail)
  refine (C4.out _).mono ?_; rintro e w4 ⟨hb4, A4, c4, rfl, ho4⟩
  have D4 := (Below.refl w4.heap.size w4).alloc (Nat.le_refl _) (.cells #[.int .i64 x', .int .i64 y'] 26)
  have B4 := Kept.mk (below_step (below_step B3.out hb4) D4)
  have O4_1 := Kept.mk (own_below (own_below O3_1.out hb4) D4)
  have V4_1 := Kept.mk ((V3_1.out.below hb4).below D4)
  have O4_2 := Kept.mk (own_below (own_below O3_2.out hb4) D4)
  have V4_2 := Kept.mk ((V3_2.out.below hb4).below D4)
  have O4_3 := Kept.mk (own_below (own_below O3_3.out hb4) D4)
  have V4_3 := Kept.mk ((V3_3.out.below hb4).below D4)
  have O4_4 := Kept.mk (own_below (own_lower7 ho4 B3.out.size) D4)
  have V4_4 := Kept.mk (Fv.make w4 x' y')
  clear hb4 ho4 D4 O3_1 V3_1 O3_2 V3_2 O3_3 V3_3
  have f10 := V4_1.out.c0
  have f11 := V4_1.out.c1
  have f20 := V4_2.out.c0
  have f21 := V4_2.out.c1
  have f30 := V4_3.out.c0
  have f31 := V4_3.out.c1
  have f40 := V4_4.out.c0
  have f41 := V4_4.out.c1
  go_wp2_with (fail)
  refine (C5.out _ _ _ _ _ _ _ O4_1.out O4_2.out).mono ?_; rintro e w5 ⟨rfl, hb5⟩
  have B5 := Kept.mk (below_step B4.out hb5)
  have P3 := Kept.mk (own_below O4_3.out hb5)
  have P4 := Kept.mk (own_below O4_4.out hb5)
  have V5_3 := V4_3.out.below hb5
  have V5_4 := V4_4.out.below hb5
  have g30 := V5_3.c0
  have g31 := V5_3.c1
  have g40 := V5_4.c0
  have g41 := V5_4.c1
  clear hb5
  go_wp2_with (fail)
  refine (C6.out _ _ _ _ _ _ _ P3.out P4.out).mono ?_; rintro e w6 ⟨rfl, hb6⟩
  have B6 := Kept.mk (below_step B5.out hb6)
  clear hb6
  go_wp2_with (fail)
  refine (awake_any _ (HT.out.below B6.out)).mono ?_; rintro e w7 ⟨rfl, hb7⟩
  have B7 := Kept.mk (below_step B6.out hb7)
  clear hb7
  go_wp2_with (fail)
  go_ret
  exact ⟨rfl, B7.out⟩
end Go.Proofs.YtlemdhfekdiaeaaGreatDoor.Wps
namespace Go.Proofs.YtlemdhfekdiaeaaGreatDoor.Ppa
open Go Go.Lib Go.Proofs.YtlemdhfekdiaeaaGreatDoor.Ptr Go.Proofs.YtlemdhfekdiaeaaGreatDoor.Wps

/-- the texts that are no documents, and where -/
def badT : List (Bs × Nat) := [([], 0), ([120], 0), ([60], 1), ([60, 97], 2), ([60, 97, 62], 3), ([60, 97, 62, 60, 47], 5), ([60, 97, 62, 60, 47, 98, 62], 5), ([60, 97, 62, 60, 47, 97], 6), ([60, 97, 62, 60, 47, 97, 32, 62, 120], 8), ([60, 97, 32, 98, 62], 4), ([60, 97, 32, 98, 61, 49, 62], 5), ([60, 97, 47, 62, 60, 98, 47, 62], 5), ([60, 97, 47, 62, 120], 4), ([60, 33, 68, 79, 67, 84, 89, 80, 69, 32, 97, 62], 2), ([60, 33, 45], 3), ([60, 33, 45, 45], 4), ([60, 33, 45, 45, 97, 45, 45, 98, 45, 45, 62], 7), ([60, 97, 62, 38, 102, 111, 111, 59, 60, 47, 97, 62], 4), ([60, 97, 62, 38, 35, 48, 59, 60, 47, 97, 62], 6), ([60, 97, 62, 38, 35, 59, 60, 47, 97, 62], 5), ([60, 97, 62, 38, 35, 120, 59, 60, 47, 97, 62], 6), ([60, 97, 62, 38, 35, 120, 49, 49, 48, 48, 48, 48, 59, 60, 47, 97, 62], 11), ([60, 97, 62, 38, 35, 49, 49, 49, 52, 49, 49, 50, 59, 60, 47, 97, 62], 11), ([60, 97, 62, 38, 35, 120, 68, 56, 48, 48, 59, 60, 47, 97, 62], 10), ([60, 97, 62, 93, 93, 62, 60, 47, 97, 62], 5), ([60, 97, 62, 93, 93, 93, 62, 60, 47, 97, 62], 6), ([60, 97, 62, 60, 33, 45, 45, 32, 45, 45, 32, 45, 45, 62, 60, 47, 97, 62], 10), ([60, 63, 120, 109, 108, 63, 62, 60, 97, 47, 62], 5), ([60, 63, 120, 109, 108, 32, 118, 101, 114, 115, 105, 111, 110, 61, 39, 49, 46, 49, 39, 63, 62, 60, 97, 47, 62], 17), ([60, 63, 120, 109, 108, 32, 118, 101, 114, 115, 105, 111, 110, 61, 39, 49, 46, 48, 39, 32, 101, 110, 99, 111, 100, 105, 110, 103, 61, 39, 108, 97, 116, 105, 110, 39, 63, 62, 60, 97, 47, 62], 30), ([60, 63, 120, 109, 108, 32, 118, 101, 114, 115, 105, 111, 110, 61, 39, 49, 46, 48, 39, 101, 110, 99, 111, 100, 105, 110, 103, 61, 39, 117, 116, 102, 45, 56, 39, 63, 62, 60, 97, 47, 62], 19), ([32, 60, 63, 120, 109, 108, 32, 118, 101, 114, 115, 105, 111, 110, 61, 39, 49, 46, 48, 39, 63, 62, 60, 97, 47, 62], 6), ([60, 63, 88, 77, 76, 32, 120, 63, 62, 60, 97, 47, 62], 5), ([60, 97, 62, 60, 63, 120, 77, 108, 63, 62, 60, 47, 97, 62], 8), ([60, 97, 32, 120, 61, 34, 49, 34, 120, 61, 34, 50, 34, 47, 62], 8), ([60, 97, 32, 120, 61, 34, 60, 34, 47, 62], 6), ([60, 97, 32, 120, 61, 39, 49, 39, 32, 47, 98, 62], 10), ([60, 97, 47, 32, 62], 3), ([60, 97, 58, 98, 47, 62], 2), ([60, 49, 47, 62], 1), ([60, 32, 97, 47, 62], 1), ([60, 97, 62, 60, 47, 32, 97, 62], 5), ([60, 97, 62, 60, 33, 91, 67, 68, 65, 84, 65, 91, 120, 93, 93, 60, 47, 97, 62], 19), ([60, 97, 62, 60, 33, 91, 67, 68, 65, 84, 91, 120, 93, 93, 62, 60, 47, 97, 62], 10), ([60, 97, 62, 38, 97, 109, 112, 60, 47, 97, 62], 7), ([60, 97, 62, 38, 97, 112, 111, 59, 60, 47, 97, 62], 7), ([60, 63, 112], 3), ([60, 63, 112, 32, 120, 63], 6), ([60, 97, 62, 60, 98, 62, 60, 47, 97, 62, 60, 47, 98, 62], 8), ([60, 97, 62, 195, 169, 60, 47, 97, 62, 38], 9), ([60, 195, 169, 62, 60, 47, 195, 168, 62], 6), ([60, 97, 32, 98, 61, 39, 49, 39, 99, 61, 39, 50, 39, 47, 62], 8), ([60, 97, 62, 38, 76, 84, 59, 60, 47, 97, 62], 4), ([60, 97, 32, 120, 61, 49, 47, 62], 5)]
theorem bad_all : (badT.all fun p => decide (documentL p.1 = ([], 130, (p.2 : Int)))) = true := by decide +kernel
def exS15 : Bs := [32, 60, 63, 120, 109, 108, 45, 120, 32, 32, 121, 32, 63, 62, 13, 10, 60, 97, 9, 98, 32, 61, 32, 39, 120, 13, 10, 121, 9, 122, 38, 35, 49, 48, 59, 38, 35, 49, 51, 59, 39, 10, 62, 13, 13, 10, 60, 33, 91, 67, 68, 65, 84, 65, 91, 60, 38, 93, 93, 62, 93, 93, 38, 103, 116, 59, 38, 35, 120, 48, 48, 52, 49, 59, 60, 63, 112, 63, 62, 60, 33, 45, 45, 45, 45, 62, 60, 98, 32, 62, 60, 47, 98, 32, 62, 38, 97, 112, 111, 115, 59, 38, 113, 117, 111, 116, 59, 60, 47, 97, 32, 62, 60, 33, 45, 45, 45, 45, 62]
def exN15 : List Nd := [(1, [], [], -1), (6, [120, 109, 108, 45, 120], [121, 32], 0), (2, [97], [], 0), (3, [98], [120, 32, 121, 32, 122, 10, 13], 2), (4, [], [10, 10, 60, 38, 93, 93, 62, 65], 2), (6, [112], [], 2), (5, [], [], 2), (2, [98], [], 2), (4, [], [39, 34], 2), (5, [], [], 0)]
theorem ex15_told : documentL exS15 = (exN15, 0, 0) := by decide +kernel
def deepL (n : Nat) : Bs := repeatL [60, 97, 62] n ++ repeatL [60, 47, 97, 62] n
theorem deep_told : (documentL (deepL 60)).2 = (0, 0) := by decide +kernel
theorem deeper_told : documentL (deepL 61) = ([], 131, 180) := by decide +kernel
def nameT (n : Nat) : Bs := [60] ++ repeatL [110] n ++ [47, 62]
theorem name_told : (documentL (nameT 100)).2 = (0, 0) := by decide +kernel
theorem name_long : documentL ([60] ++ repeatL [110] 100 ++ [110, 47, 62]) = ([], 130, 101) := by decide +kernel
theorem odd_told1 : documentL [60, 97, 62, 255, 60, 47, 98, 62] = ([], 120, 3) := by decide +kernel
theorem odd_told2 : documentL [60, 97, 62, 0] = ([], 120, 3) := by decide +kernel
theorem odd_told3 : documentL [239, 191, 191] = ([], 120, 0) := by decide +kernel
theorem odd_told4 : documentL [60, 97, 32, 120, 61, 39, 49, 39, 32, 120, 61, 39, 50, 39, 32, 121, 61, 39, 39, 32, 121, 61, 39, 39, 47, 62] = ([], 282, 9) := by decide +kernel
theorem odd_told5 : documentL [60, 97, 32, 120, 61, 39, 39, 32, 120, 61, 39, 39, 62, 60, 47, 98, 62] = ([], 130, 15) := by decide +kernel
theorem both_told : documentL (repeatL [60, 97, 62] 60 ++ [60, 97, 32, 120, 61, 39, 39, 32, 120, 61, 39, 39, 47, 62] ++ repeatL [60, 47, 97, 62] 60) = ([], 282, 188) := by decide +kernel
theorem frag_told1 : fragmentL [] = ([], 0, 0) := by decide +kernel
theorem frag_told2 : fragmentL [60, 63, 120, 109, 108, 32, 118, 101, 114, 115, 105, 111, 110, 61, 34, 49, 46, 48, 34, 63, 62] = ([], 130, 5) := by decide +kernel
theorem frag_told3 : fragmentL [60, 47, 97, 62] = ([], 130, 1) := by decide +kernel
theorem frag_told4 : fragmentL [60, 33, 91, 67, 68, 65, 84, 65, 91, 60, 93, 93, 62, 38, 103, 116, 59] = ([(4, [], [60, 62], -1)], 0, 0) := by decide +kernel
/-! ### long texts -/
def lowC (c : UInt8) : Bool := decide (c.toNat < 128) && Pch.charB (c.toNat : Int)
theorem wrongF_low : ∀ (f k : Nat) (r : Bs), r.all lowC = true → wrongF f k r = none
  | 0, _, _, _ => rfl
  | f + 1, k, [], _ => by rw [wrongF, if_pos rfl]
  | f + 1, k, c :: t, h => by
    rw [List.all_cons, Bool.and_eq_true] at h
    have hc := h.1
    unfold lowC at hc
    rw [Bool.and_eq_true, decide_eq_true_eq] at hc
    rw [wrongF, if_neg (by simp), decodeL_ascii c t hc.1, if_pos ⟨by unfold Pch.okR; simp; omega, hc.2⟩, skip_low c t hc.1]
    exact wrongF_low f _ t h.2
theorem wrongL_low {l : Bs} (h : l.all lowC = true) : wrongL l = none := wrongF_low _ _ _ h
theorem rep_zero (u : Bs) : repeatL u 0 = [] := rfl
theorem rep_succ (u : Bs) (n : Nat) : repeatL u (n + 1) = u ++ repeatL u n := rfl
theorem rep_low {u : Bs} (h : u.all lowC = true) : ∀ n, (repeatL u n).all lowC = true
  | 0 => rfl
  | n + 1 => by rw [rep_succ, List.all_append, h, rep_low h n]; rfl
theorem rep_len (u : Bs) : ∀ n, (repeatL u n).length = n * u.length
  | 0 => by simp [rep_zero]
  | n + 1 => by rw [rep_succ, List.length_append, rep_len u n, Nat.succ_mul]; omega
theorem blanks_rep : ∀ n, blanksL (repeatL [32] n) = []
  | 0 => rfl
  | n + 1 => by rw [rep_succ]; exact blanks_rep n
theorem blanks_told : documentL (repeatL [32] 65536) = ([], 130, 65536) := by
  have hl : (repeatL [32] 65536).length = 65536 := rep_len [32] 65536
  have hw := wrongL_low (rep_low (u := [32]) (by decide) 65536)
  have hp : hasPrefix (repeatL [32] 65536) xmlW = false := by rw [show (65536 : Nat) = 65535 + 1 from rfl, rep_succ]; rfl
  have ho : docM (repeatL [32] 65536).length (fuel (repeatL [32] 65536).length) (repeatL [32] 65536) = some (.error []) := by
    rw [docM_eq, if_neg (by rw [hp]; rintro ⟨h, _⟩; cases h), show fuel (repeatL [32] 65536).length = (3 * (repeatL [32] 65536).length + 8) + 1 from rfl, docF_nil (blanks_rep _), if_neg (by simp)]
  unfold documentL
  rw [allM_told (by omega) hw ho, hl]
  rfl
theorem nameM_one (c d : UInt8) (t : Bs) (hc : c.toNat < 128) (hd : d.toNat < 128) (h1 : Pch.startB (c.toNat : Int) = true) (h2 : Pch.nameB (c.toNat : Int) = true) (h3 : Pch.nameB (d.toNat : Int) = false) : nameM (c :: d :: t) = .ok ([c], d :: t) := by
  rw [nameM_eq (by rw [peek_low c _ hc]; exact h1), show (c :: d :: t).length = (d :: t).length + 1 from rfl, nameF_step _ _ _ (by rw [peek_low c _ hc]; exact h2), decodeL_ascii c _ hc, skip_low c _ hc, if_neg (by show ¬ 100 < 0 + 1; decide), nameF_end _ _ _ (by rw [peek_low d _ hd]; exact h3)]
  rfl
theorem elemS_low {N : Nat} {p : Int} {d : Nat} {r nm : Bs} {s : St} (ht : s.text = []) (hd : ¬ 60 < d) : elemS N p d r nm s = { s with nodes := s.nodes ++ [(2, nm, [], p)] } := by
  unfold elemS add flush
  simp [ht, hd]
theorem elemS_txt {N : Nat} {p : Int} {d : Nat} {r nm : Bs} {s : St} (ht : s.text ≠ []) (hd : ¬ 60 < d) : elemS N p d r nm s = { s with nodes := s.nodes ++ [(4, [], s.text, p)] ++ [(2, nm, [], p)], text := [] } := by
  unfold elemS add flush
  simp [ht, hd]
/-- <b/> -/
theorem elem_b (N f : Nat) (p : Int) (d : Nat) (t : Bs) (s : St) : elemF N (f + 1) p d (98 :: 47 :: 62 :: t) s = some (.ok (t, elemS N p d (98 :: 47 :: 62 :: t) [98] s)) := by
  rw [elem_tail, nameM_one 98 47 (62 :: t) (by decide) (by decide) (by decide) (by decide) (by decide)]
  dsimp only
  rw [attrs_stop (by rfl)]
  dsimp only
  rw [tail_slash, mustL_eq]
  rfl
theorem cont_b {N f : Nat} {p : Int} {d run : Nat} {t : Bs} {s : St} : contF N (f + 3) p d run (60 :: 98 :: 47 :: 62 :: t) s = contF N (f + 2) p d 0 t (elemS N p (d + 1) (98 :: 47 :: 62 :: t) [98] s) := by
  rw [cont_mark (by rintro ⟨_, h⟩; cases h), mark_elem (by simp) (by simp), elem_b]
theorem cont_bs {N : Nat} {p : Int} {d : Nat} {t : Bs} (hd : ¬ 60 < d + 1) : ∀ (n f : Nat) (s : St), s.text = [] → contF N (f + 2 + n) p d 0 (repeatL [60, 98, 47, 62] n ++ t) s = contF N (f + 2) p d 0 t { s with nodes := s.nodes ++ List.replicate n (2, [98], [], p) }
  | 0, f, s, _ => by simp [rep_zero]
  | n + 1, f, s, ht => by
    rw [rep_succ, List.append_assoc, show f + 2 + (n + 1) = (f + n) + 3 by omega]
    refine (cont_b (p := p) (t := repeatL [60, 98, 47, 62] n ++ t)).trans ?_
    rw [elemS_low ht hd, show f + n + 2 = f + 2 + n by omega, cont_bs hd n f { s with nodes := s.nodes ++ [(2, [98], [], p)] } ht]
    dsimp only
    rw [List.append_assoc, List.replicate_succ]
    rfl
theorem cont_xb {N f : Nat} {p : Int} {d : Nat} {t : Bs} {s : St} : contF N (f + 4) p d 0 (120 :: 60 :: 98 :: 47 :: 62 :: t) s = contF N (f + 2) p d 0 t (elemS N p (d + 1) (98 :: 47 :: 62 :: t) [98] { s with text := s.text ++ [120] }) := by
  rw [show f + 4 = (f + 3) + 1 from rfl, cont_char (by rintro ⟨h, _⟩; cases h) (by decide) (by decide) (by decide)]
  exact cont_b
def xbs (p : Int) : Nat → List Nd
  | 0 => []
  | n + 1 => (4, [], [120], p) :: (2, [98], [], p) :: xbs p n
theorem xbs_len (p : Int) : ∀ n, (xbs p n).length = 2 * n
  | 0 => rfl
  | n + 1 => by unfold xbs; rw [List.length_cons, List.length_cons, xbs_len p n]; omega
theorem cont_xbs {N : Nat} {p : Int} {d : Nat} {t : Bs} (hd : ¬ 60 < d + 1) : ∀ (n f : Nat) (s : St), s.text = [] → contF N (f + 2 + 2 * n) p d 0 (repeatL [120, 60, 98, 47, 62] n ++ t) s = contF N (f + 2) p d 0 t { s with nodes := s.nodes ++ xbs p n }
  | 0, f, s, _ => by simp [rep_zero, xbs]
  | n + 1, f, s, ht => by
    rw [rep_succ, List.append_assoc, show f + 2 + 2 * (n + 1) = (f + 2 * n) + 4 by omega]
    refine (cont_xb (p := p) (t := repeatL [120, 60, 98, 47, 62] n ++ t)).trans ?_
    rw [elemS_txt (by simp) hd, show f + 2 * n + 2 = f + 2 + 2 * n by omega, cont_xbs hd n f _ rfl]
    dsimp only
    rw [ht, List.append_assoc, List.append_assoc]
    rfl
/-- a document <a> .. </a> whose inside is read into these nodes -/
theorem doc_a {B : Bs} {M : List Nd} (hB : B.all lowC = true) (hN : B.length + 7 ≤ 65536) (hc : ∀ f, 3 * B.length + 20 ≤ f → contF (B.length + 7) f 1 1 0 (B ++ [60, 47, 97, 62]) ⟨[(1, [], [], -1), (2, [97], [], 0)], [], -1, -1⟩ = some (.ok ([97, 62], ⟨(1, [], [], -1) :: (2, [97], [], 0) :: M, [], -1, -1⟩))) :
    documentL ([60, 97, 62] ++ B ++ [60, 47, 97, 62]) = toldM (B.length + 7) (.ok ⟨(1, [], [], -1) :: (2, [97], [], 0) :: M, [], -1, -1⟩) := by
  have hl : ([60, 97, 62] ++ B ++ [60, 47, 97, 62]).length = B.length + 7 := by simp
  have hw : wrongL ([60, 97, 62] ++ B ++ [60, 47, 97, 62]) = none := wrongL_low (by rw [List.all_append, List.all_append, hB]; rfl)
  unfold documentL
  have ho : docM ([60, 97, 62] ++ B ++ [60, 47, 97, 62]).length (fuel ([60, 97, 62] ++ B ++ [60, 47, 97, 62]).length) ([60, 97, 62] ++ B ++ [60, 47, 97, 62]) = some (.ok ⟨(1, [], [], -1) :: (2, [97], [], 0) :: M, [], -1, -1⟩) := by
    rw [hl, docM_eq, if_neg (by rintro ⟨h, _⟩; cases h), show fuel (B.length + 7) = (3 * B.length + 29) + 1 by unfold fuel; omega]
    rw [docF_elem (t := 97 :: 62 :: (B ++ [60, 47, 97, 62])) (by show blanksL (60 :: 97 :: 62 :: (B ++ [60, 47, 97, 62])) = _; exact blanksL_of_false rfl) (by simp) (by simp), if_neg (by simp)]
    rw [show 3 * B.length + 29 = (3 * B.length + 28) + 1 from rfl, elem_tail, nameM_one 97 62 _ (by decide) (by decide) (by decide) (by decide) (by decide)]
    dsimp only
    rw [attrs_stop (by rfl), elemS_low rfl (by decide)]
    dsimp only
    rw [tail_cont (r3 := B ++ [60, 47, 97, 62]) (by simp) (by rw [mustL_eq]; rfl)]
    have h := hc (3 * B.length + 28) (by omega)
    have h2 : contF (B.length + 7) (3 * B.length + 28) (((stR.nodes ++ [(2, [97], [], 0)]).length.pred : Nat) : Int) 1 0 (B ++ [60, 47, 97, 62]) { stR with nodes := stR.nodes ++ [(2, [97], [], 0)] } = some (.ok ([97, 62], ⟨(1, [], [], -1) :: (2, [97], [], 0) :: M, [], -1, -1⟩)) := h
    rw [h2]
    dsimp only
    rw [show closeM [97] [97, 62] = .ok [] from by rfl]
    dsimp only
    rw [show 3 * B.length + 28 + 1 = (3 * B.length + 28) + 1 from rfl, docF_nil (by rfl), if_pos rfl]
  rw [allM_told (by rw [hl]; omega) hw ho, hl]
def fullN : List Nd := (1, [], [], -1) :: (2, [97], [], 0) :: List.replicate 16382 (2, [98], [], 1)
theorem full_len : fullN.length = 16384 := by unfold fullN; rw [List.length_cons, List.length_cons, List.length_replicate]
theorem full_told : documentL ([60, 97, 62] ++ repeatL [60, 98, 47, 62] 16382 ++ [60, 47, 97, 62]) = (fullN, 0, 0) := by
  have hl : (repeatL [60, 98, 47, 62] 16382).length = 65528 := rep_len _ _
  have h := doc_a (B := repeatL [60, 98, 47, 62] 16382) (M := List.replicate 16382 (2, [98], [], 1)) (rep_low (by decide) _) (by omega) (fun f hf => by
    obtain ⟨g, rfl⟩ : ∃ g, f = g + 2 + 16382 := ⟨f - 16384, by omega⟩
    rw [cont_bs (by decide) 16382 g _ rfl, cont_close (by decide)]
    rfl)
  rw [h]
  unfold toldM
  dsimp only
  rw [if_neg (by decide), if_neg (by decide), if_neg (by show ¬ 16384 < fullN.length; rw [full_len]; decide)]
  rfl
theorem many_told : documentL ([60, 97, 62] ++ repeatL [120, 60, 98, 47, 62] 8192 ++ [60, 47, 97, 62]) = ([], 3, 0) := by
  have hl : (repeatL [120, 60, 98, 47, 62] 8192).length = 40960 := rep_len _ _
  have h := doc_a (B := repeatL [120, 60, 98, 47, 62] 8192) (M := xbs 1 8192) (rep_low (by decide) _) (by omega) (fun f hf => by
    obtain ⟨g, rfl⟩ : ∃ g, f = g + 2 + 2 * 8192 := ⟨f - 16386, by omega⟩
    rw [cont_xbs (by decide) 8192 g _ rfl, cont_close (by decide)]
    rfl)
  rw [h]
  unfold toldM
  dsimp only
  rw [if_neg (by decide), if_neg (by decide), if_pos (by rw [List.length_cons, List.length_cons, xbs_len]; decide)]
end Go.Proofs.YtlemdhfekdiaeaaGreatDoor.Ppa
namespace Go.Proofs.YtlemdhfekdiaeaaGreatDoor.Wps
open Go Go.RowKit Go.Proofs.YtlemdhfekdiaeaaGreatDoor.Kb Go.Proofs.YtlemdhfekdiaeaaGreatDoor.Wch Go.Proofs.YtlemdhfekdiaeaaGreatDoor.Wtr Go.Proofs.YtlemdhfekdiaeaaGreatDoor.Flt

theorem neq_of_eql {t : TypeId} {u v : Array Value} {b : Bool} {w : World} (h : (binOp .eql t (.agg u) (.agg v)).run Tryz.prog w = .ok (.bool b) w) : (binOp .neq t (.agg u) (.agg v)).run Tryz.prog w = .ok (.bool !b) w := by
  rw [run_eql_struct] at h
  rw [run_neq_struct]
  revert h
  cases (Op.equalIn 10000 t (.agg u) (.agg v)).run Tryz.prog w with
  | ok c w' => intro h; simp at h ⊢; exact ⟨by rw [h.1], h.2⟩
  | halt x w' => intro h; simp at h
theorem doc_at (s : ByteArray) (L : List Ptr.Nd) (x y : Int) (k : Nat) (hm : Ppa.documentL s.data.toList = (L, x, y)) (hk : L.length = k) (hl : s.size ≤ 1000000) (w : World) (he : Ev w) : Calls Tryz.prog 7 #[.string s] w fun e w' => Below w.heap.size w w' ∧ ∃ A c, e = .returned (.tuple #[.slice A k c, .agg #[.int .i64 x, .int .i64 y]]) ∧ w'.ownsRow w.heap.size 35 4 (.slice A k c) k (ndsC L) := by
  subst hk
  have h := document_any s w he hl
  rw [hm] at h
  exact h
/-- a text with this fault -/
structure Flts (s : ByteArray) (x y : Int) : Prop where
  out : Ppa.documentL s.data.toList = ([], x, y)
  small : s.size ≤ 1000000
set_option maxRecDepth 100000 in
set_option maxHeartbeats 2000000 in
theorem fault_any (s : ByteArray) (x y : Int) (w : World) (he : Ev w) (hm : Flts s x y) : Calls Tryz.prog 14 #[.string s, .int .i64 x, .int .i64 y] w fun e w' => e = .returned (.bool true) ∧ Below w.heap.size w w' := by
  have C := Kept.mk (doc_at s [] x y 0 hm.out rfl hm.small w he)
  clear he hm
  go_enter Tryz.func14, Tryz.ntmps14
  go_wp2_with (fail)
  refine C.out.mono ?_; rintro e w1 ⟨hb1, A, c, rfl, _⟩
  have V := Fv.make w1 x y
  have v0 := V.c0
  have v1 := V.c1
  have B1 := Kept.mk (below_step hb1 ((Below.refl w1.heap.size w1).alloc (Nat.le_refl _) (.cells #[.int .i64 x, .int .i64 y] 26)))
  clear hb1 V
  go_wp2_with (fail)
  go_ret
  exact ⟨rfl, B1.out⟩
def badC : List Value := Ppa.badT.map fun p => .string ⟨p.1.toArray⟩
def atC : List Value := Ppa.badT.map fun p => .int .i64 (p.2 : Int)
theorem bad_at (k : Nat) (hk : k < 54) : ∃ (X : ByteArray) (n : Nat), badC[k]? = some (.string X) ∧ atC[k]? = some (.int .i64 (n : Int)) ∧ Flts X 130 n := by
  obtain ⟨p, hp⟩ : ∃ p, Ppa.badT[k]? = some p := ⟨_, List.getElem?_eq_getElem (show k < Ppa.badT.length from hk)⟩
  have h := List.all_eq_true.1 Ppa.bad_all p (List.mem_of_getElem? hp)
  rw [decide_eq_true_eq] at h
  have hs : (Ppa.badT.all fun p => decide (p.1.length ≤ 1000)) = true := by decide
  have h2 := List.all_eq_true.1 hs p (List.mem_of_getElem? hp)
  rw [decide_eq_true_eq] at h2
  refine ⟨⟨p.1.toArray⟩, p.2, ?_, ?_, h, ?_⟩
  · unfold badC
    rw [List.getElem?_map, hp]
    rfl
  · unfold atC
    rw [List.getElem?_map, hp]
    rfl
  · rw [Lib.size_mk]; omega
set_option maxRecDepth 100000 in
set_option maxHeartbeats 4000000 in
theorem faults_any (w : World) (he : Ev w) : Calls Tryz.prog 12 #[] w fun e w' => e = .returned (.bool true) ∧ Below w.heap.size w w' := by
  have HE := Kept.mk he
  clear he
  go_enter Tryz.func12, Tryz.ntmps12
  go_upto_region 3 with (fail)
  have hB0 : Below w.heap.size w ((w.alloc (.cells badC.toArray 9)).alloc (.cells atC.toArray 3)) := ((Below.refl _ _).alloc (Nat.le_refl _) _).alloc (by simp) _
  have hS : ∀ k v, badC[k]? = some v → ((w.alloc (.cells badC.toArray 9)).alloc (.cells atC.toArray 3)).cell? ⟨w.heap.size, k, none⟩ = some v := fun k v h => by
    have h0 : (w.alloc (.cells badC.toArray 9)).cell? ⟨w.heap.size, k, none⟩ = some v := by rw [World.cell?_alloc_new]; simpa using h
    have hb : Below (w.alloc (.cells badC.toArray 9)).heap.size (w.alloc (.cells badC.toArray 9)) ((w.alloc (.cells badC.toArray 9)).alloc (.cells atC.toArray 3)) := (Below.refl _ _).alloc (Nat.le_refl _) _
    rw [hb.cell (p := ⟨w.heap.size, k, none⟩) (Kb.cell_lt h0)]
    exact h0
  have hA : ∀ k v, atC[k]? = some v → ((w.alloc (.cells badC.toArray 9)).alloc (.cells atC.toArray 3)).cell? ⟨w.heap.size + 1, k, none⟩ = some v := fun k v h => by
    have h0 := World.cell?_alloc_new (w.alloc (.cells badC.toArray 9)) atC.toArray 3 k
    rw [World.size_alloc] at h0
    rw [h0]
    simpa using h
  change Code.wp _ _ _ _ ((w.alloc (.cells badC.toArray 9)).alloc (.cells atC.toArray 3))
  generalize (w.alloc (.cells badC.toArray 9)).alloc (.cells atC.toArray 3) = W0 at hB0 hS hA ⊢
  generalize hg : w.heap.size + 1 = g2 at hA ⊢
  have HS := Kept.mk hS
  have HA := Kept.mk hA
  have HB0 := Kept.mk hB0
  clear hS hA hB0 hg
  go_wp2
  go_loopw [3] (fun i wx => ∃ k : Nat, k ≤ 54 ∧ i = .int .i64 (k : Int) ∧ Kept (Below W0.heap.size W0 wx)) (fun i _ => 54 - (intOf i).toNat)
  case atStart => exact ⟨0, by omega, rfl, ⟨Below.refl _ _⟩⟩
  case round =>
    obtain ⟨k, hk, rfl, HB⟩ := hrel
    have k0 : (0 : Int) ≤ (k : Int) := by omega
    have hz0 := HB0.out.size
    by_cases hlt : k < 54
    · have k1 : (k : Int) < 54 := by omega
      obtain ⟨X, n, h1, h2, hX⟩ := bad_at k hlt
      have BW := Kept.mk (HB0.out.trans (HB.out.mono hz0))
      have q1 := HS.out _ _ h1
      have q2 := HA.out _ _ h2
      have r1 : wr.cell? ⟨w.heap.size, k, none⟩ = some (.string X) := by rw [HB.out.cell (p := ⟨w.heap.size, k, none⟩) (Kb.cell_lt q1)]; exact q1
      have r2 : wr.cell? ⟨g2, k, none⟩ = some (.int .i64 (n : Int)) := by rw [HB.out.cell (p := ⟨g2, k, none⟩) (Kb.cell_lt q2)]; exact q2
      have x1 := beh_cell r1
      have x2 := beh_cell r2
      have EW := Kept.mk (HE.out.below BW.out)
      have cF := Kept.mk (fun (x : Beh wr) => fault_any X 130 (n : Int) x.fin (EW.out.below x.ok) hX)
      have cT := Kept.mk (fun (x : Beh wr) => law_tells X x.fin (EW.out.below x.ok))
      clear h1 h2 q1 q2 r1 r2 hX
      go_wp2
      refine wp_region_beh (by kernel_rfl) (by kernel_rfl) ?_
      repeat
        (refine Qw_step (fun K hK => ?_)
         go_simp
         first
           | (refine hK _ ?_; clear hK K)
           | (apply Exists.intro
              refine ⟨fun _ => ?_, hK _ ?_⟩
              (first
                | (go_at_call 14; exact Calls.beh_of (cF.out _))
                | (go_at_call 3; exact Calls.beh_of (cT.out _)))
              clear hK K))
      refine Qw_nil ?_
      rintro _ ⟨⟨w5, hb5⟩, rfl⟩
      go_wp2
      go_roundw
      case rel => exact ⟨k + 1, by omega, by go_num, ⟨HB.out.trans (hb5.mono HB.out.size)⟩⟩
      case measure => simp [intOf]; omega
    · obtain rfl : k = 54 := by omega
      go_wp2
      go_ret
      exact ⟨rfl, HB0.out.trans (HB.out.mono hz0)⟩
theorem rep_1 (w : World) : Calls Tryz.prog 13 #[.string ⟨#[60, 97, 62]⟩, .int .i64 60] w fun e w' => ∃ Y : ByteArray, e = .returned (.string Y) ∧ Kept (Y.data.toList = Lib.repeatL [60, 97, 62] 60) ∧ Y.size ≤ 65537 ∧ Below w.heap.size w w' := by
  have h := Any.strings_Repeat Tryz.lays105 Tryz.Builder_Extra_105 ⟨#[60, 97, 62]⟩ 60 w (by decide) (by decide)
  exact h.mono fun e w' ⟨he, hb⟩ => ⟨_, he, ⟨rfl⟩, by rw [Lib.size_mk]; exact Nat.le_trans (Nat.le_of_eq (Ppa.rep_len [60, 97, 62] 60)) (by decide), hb⟩
theorem rep_2 (w : World) : Calls Tryz.prog 13 #[.string ⟨#[60, 47, 97, 62]⟩, .int .i64 60] w fun e w' => ∃ Y : ByteArray, e = .returned (.string Y) ∧ Kept (Y.data.toList = Lib.repeatL [60, 47, 97, 62] 60) ∧ Y.size ≤ 65537 ∧ Below w.heap.size w w' := by
  have h := Any.strings_Repeat Tryz.lays105 Tryz.Builder_Extra_105 ⟨#[60, 47, 97, 62]⟩ 60 w (by decide) (by decide)
  exact h.mono fun e w' ⟨he, hb⟩ => ⟨_, he, ⟨rfl⟩, by rw [Lib.size_mk]; exact Nat.le_trans (Nat.le_of_eq (Ppa.rep_len [60, 47, 97, 62] 60)) (by decide), hb⟩
theorem rep_3 (w : World) : Calls Tryz.prog 13 #[.string ⟨#[60, 97, 62]⟩, .int .i64 61] w fun e w' => ∃ Y : ByteArray, e = .returned (.string Y) ∧ Kept (Y.data.toList = Lib.repeatL [60, 97, 62] 61) ∧ Y.size ≤ 65537 ∧ Below w.heap.size w w' := by
  have h := Any.strings_Repeat Tryz.lays105 Tryz.Builder_Extra_105 ⟨#[60, 97, 62]⟩ 61 w (by decide) (by decide)
  exact h.mono fun e w' ⟨he, hb⟩ => ⟨_, he, ⟨rfl⟩, by rw [Lib.size_mk]; exact Nat.le_trans (Nat.le_of_eq (Ppa.rep_len [60, 97, 62] 61)) (by decide), hb⟩
theorem rep_4 (w : World) : Calls Tryz.prog 13 #[.string ⟨#[60, 47, 97, 62]⟩, .int .i64 61] w fun e w' => ∃ Y : ByteArray, e = .returned (.string Y) ∧ Kept (Y.data.toList = Lib.repeatL [60, 47, 97, 62] 61) ∧ Y.size ≤ 65537 ∧ Below w.heap.size w w' := by
  have h := Any.strings_Repeat Tryz.lays105 Tryz.Builder_Extra_105 ⟨#[60, 47, 97, 62]⟩ 61 w (by decide) (by decide)
  exact h.mono fun e w' ⟨he, hb⟩ => ⟨_, he, ⟨rfl⟩, by rw [Lib.size_mk]; exact Nat.le_trans (Nat.le_of_eq (Ppa.rep_len [60, 47, 97, 62] 61)) (by decide), hb⟩
theorem rep_5 (w : World) : Calls Tryz.prog 13 #[.string ⟨#[110]⟩, .int .i64 100] w fun e w' => ∃ Y : ByteArray, e = .returned (.string Y) ∧ Kept (Y.data.toList = Lib.repeatL [110] 100) ∧ Y.size ≤ 65537 ∧ Below w.heap.size w w' := by
  have h := Any.strings_Repeat Tryz.lays105 Tryz.Builder_Extra_105 ⟨#[110]⟩ 100 w (by decide) (by decide)
  exact h.mono fun e w' ⟨he, hb⟩ => ⟨_, he, ⟨rfl⟩, by rw [Lib.size_mk]; exact Nat.le_trans (Nat.le_of_eq (Ppa.rep_len [110] 100)) (by decide), hb⟩
theorem rep_6 (w : World) : Calls Tryz.prog 13 #[.string ⟨#[60, 98, 47, 62]⟩, .int .i64 16382] w fun e w' => ∃ Y : ByteArray, e = .returned (.string Y) ∧ Kept (Y.data.toList = Lib.repeatL [60, 98, 47, 62] 16382) ∧ Y.size ≤ 65537 ∧ Below w.heap.size w w' := by
  have h := Any.strings_Repeat Tryz.lays105 Tryz.Builder_Extra_105 ⟨#[60, 98, 47, 62]⟩ 16382 w (by decide) (by decide)
  exact h.mono fun e w' ⟨he, hb⟩ => ⟨_, he, ⟨rfl⟩, by rw [Lib.size_mk]; exact Nat.le_trans (Nat.le_of_eq (Ppa.rep_len [60, 98, 47, 62] 16382)) (by decide), hb⟩
theorem rep_7 (w : World) : Calls Tryz.prog 13 #[.string ⟨#[120, 60, 98, 47, 62]⟩, .int .i64 8192] w fun e w' => ∃ Y : ByteArray, e = .returned (.string Y) ∧ Kept (Y.data.toList = Lib.repeatL [120, 60, 98, 47, 62] 8192) ∧ Y.size ≤ 65537 ∧ Below w.heap.size w w' := by
  have h := Any.strings_Repeat Tryz.lays105 Tryz.Builder_Extra_105 ⟨#[120, 60, 98, 47, 62]⟩ 8192 w (by decide) (by decide)
  exact h.mono fun e w' ⟨he, hb⟩ => ⟨_, he, ⟨rfl⟩, by rw [Lib.size_mk]; exact Nat.le_trans (Nat.le_of_eq (Ppa.rep_len [120, 60, 98, 47, 62] 8192)) (by decide), hb⟩
theorem rep_8 (w : World) : Calls Tryz.prog 13 #[.string ⟨#[32]⟩, .int .i64 65537] w fun e w' => ∃ Y : ByteArray, e = .returned (.string Y) ∧ Kept (Y.data.toList = Lib.repeatL [32] 65537) ∧ Y.size ≤ 65537 ∧ Below w.heap.size w w' := by
  have h := Any.strings_Repeat Tryz.lays105 Tryz.Builder_Extra_105 ⟨#[32]⟩ 65537 w (by decide) (by decide)
  exact h.mono fun e w' ⟨he, hb⟩ => ⟨_, he, ⟨rfl⟩, by rw [Lib.size_mk]; exact Nat.le_trans (Nat.le_of_eq (Ppa.rep_len [32] 65537)) (by decide), hb⟩
theorem rep_9 (w : World) : Calls Tryz.prog 13 #[.string ⟨#[32]⟩, .int .i64 65536] w fun e w' => ∃ Y : ByteArray, e = .returned (.string Y) ∧ Kept (Y.data.toList = Lib.repeatL [32] 65536) ∧ Y.size ≤ 65537 ∧ Below w.heap.size w w' := by
  have h := Any.strings_Repeat Tryz.lays105 Tryz.Builder_Extra_105 ⟨#[32]⟩ 65536 w (by decide) (by decide)
  exact h.mono fun e w' ⟨he, hb⟩ => ⟨_, he, ⟨rfl⟩, by rw [Lib.size_mk]; exact Nat.le_trans (Nat.le_of_eq (Ppa.rep_len [32] 65536)) (by decide), hb⟩
theorem catL (a b : ByteArray) : (a ++ b).data.toList = a.data.toList ++ b.data.toList := by simp
theorem own_up {w w1 : World} {n c : Nat} {A : Option Addr} {xs : List Value} {o : Obj} (ho : w1.ownsRow w.heap.size 35 4 (.slice A n c) n xs) : (w1.alloc o).ownsRow w.heap.size 35 4 (.slice A n c) n xs := own_below ho ((Below.refl _ _).alloc (Nat.le_refl _) o)
def want15 : List Ptr.Nd := Ppa.exN15
theorem same_15 (A1 A2 : Option Addr) (c1 : Nat) (w : World) {B : Nat} (h1 : w.ownsRow B 35 4 (.slice A1 10 c1) 10 (ndsC Ppa.exN15)) (h2 : RdN w A2 Ppa.exN15) : Calls Tryz.prog 15 #[.slice A1 10 c1, .slice A2 10 10] w fun e w' => e = .returned (.bool true) ∧ Below w.heap.size w w' := same_rd Ppa.exN15 A1 A2 c1 10 w (rdn_of_own h1) h2 (by decide)
set_option maxRecDepth 100000 in
set_option maxHeartbeats 8000000 in
theorem law_numbers (w : World) (he : Ev w) : Calls Tryz.prog 4 #[] w fun e w' => e = .returned (.bool true) ∧ Below w.heap.size w w' := by
  have HE := Kept.mk he
  have qe := fun wx => eql_fault 0 0 wx
  have qn := fun wx => neq_of_eql (eql_fault 0 0 wx)
  have q5 := fun wx => eql_fault 130 5 wx
  have q1 := fun wx => eql_fault 130 1 wx
  have B0 := Kept.mk (Below.refl w.heap.size w)
  clear he
  go_enter Tryz.func4, Tryz.ntmps4
  have C15 : Kept (∀ (S : ByteArray), Kept (S = ⟨Ppa.exS15.toArray⟩) → ∀ wx, Ev wx → Calls Tryz.prog 7 #[.string S] wx fun e w' => Below wx.heap.size wx w' ∧ ∃ A c, e = .returned (.tuple #[.slice A 10 c, .agg #[.int .i64 0, .int .i64 0]]) ∧ w'.ownsRow wx.heap.size 35 4 (.slice A 10 c) 10 (ndsC Ppa.exN15)) := ⟨fun S hS wx hx => doc_at S Ppa.exN15 0 0 10 (by rw [hS.out]; exact Ppa.ex15_told) rfl (by rw [hS.out, Lib.size_mk]; decide) wx hx⟩
  go_wp2_with (fail)
  refine (awake_any _ (HE.out.below B0.out)).mono ?_; rintro e w1 ⟨rfl, hb1⟩
  have B1 := Kept.mk (below_step B0.out hb1)
  clear hb1
  go_wp2_with (fail)
  refine (faults_any _ (HE.out.below B1.out)).mono ?_; rintro e w2 ⟨rfl, hb2⟩
  have B2 := Kept.mk (below_step B1.out hb2)
  clear hb2
  go_wp2_with (fail)
  refine (rep_1 _).mono ?_; rintro e w3 ⟨Y1, rfl, hY1, hz1, hb3⟩
  have B3 := Kept.mk (below_step B2.out hb3)
  clear hb3
  go_wp2_with (fail)
  refine (rep_2 _).mono ?_; rintro e w4 ⟨Y2, rfl, hY2, hz2, hb4⟩
  have B4 := Kept.mk (below_step B3.out hb4)
  have s1 : ¬ 9223372036854775807 < Y1.size + Y2.size := by omega
  clear hb4
  go_wp2_with (fail)
  refine (rep_3 _).mono ?_; rintro e w5 ⟨Y3, rfl, hY3, hz3, hb5⟩
  have B5 := Kept.mk (below_step B4.out hb5)
  clear hb5
  go_wp2_with (fail)
  refine (rep_4 _).mono ?_; rintro e w6 ⟨Y4, rfl, hY4, hz4, hb6⟩
  have B6 := Kept.mk (below_step B5.out hb6)
  have s2 : ¬ 9223372036854775807 < Y3.size + Y4.size := by omega
  clear hb6
  go_wp2_with (fail)
  refine (rep_5 _).mono ?_; rintro e w7 ⟨Y5, rfl, hY5, hz5, hb7⟩
  have B7 := Kept.mk (below_step B6.out hb7)
  clear hb7
  go_wp2_with (fail)
  refine (rep_6 _).mono ?_; rintro e w8 ⟨Y6, rfl, hY6, hz6, hb8⟩
  have B8 := Kept.mk (below_step B7.out hb8)
  have s3 : ¬ 9223372036854775807 < 3 + Y6.size := by omega
  have s4 : ¬ 9223372036854775807 < 3 + Y6.size + 4 := by omega
  clear hb8
  go_wp2_with (fail)
  refine (rep_7 _).mono ?_; rintro e w9 ⟨Y7, rfl, hY7, hz7, hb9⟩
  have B9 := Kept.mk (below_step B8.out hb9)
  have s5 : ¬ 9223372036854775807 < 3 + Y7.size := by omega
  have s6 : ¬ 9223372036854775807 < 3 + Y7.size + 4 := by omega
  clear hb9
  have e3 : (⟨#[60, 97, 62]⟩ : ByteArray).size = 3 := rfl
  have e4 : (⟨#[60, 47, 97, 62]⟩ : ByteArray).size = 4 := rfl
  have KS : Kept (((⟨#[60, 97, 62]⟩ : ByteArray) ++ Y6 ++ (⟨#[60, 47, 97, 62]⟩ : ByteArray)).size ≤ 1000000 ∧ ((⟨#[60, 97, 62]⟩ : ByteArray) ++ Y7 ++ (⟨#[60, 47, 97, 62]⟩ : ByteArray)).size ≤ 1000000 ∧ (Y1 ++ Y2).size ≤ 1000000 ∧ (Y3 ++ Y4).size ≤ 1000000) := ⟨by simp only [ByteArray.size_append]; omega⟩
  clear e3 e4
  have CF := Kept.mk (doc_at ((⟨#[60, 97, 62]⟩ : ByteArray) ++ Y6 ++ (⟨#[60, 47, 97, 62]⟩ : ByteArray)) Ppa.fullN 0 0 16384 (by rw [catL, catL, hY6.out]; exact Ppa.full_told) Ppa.full_len KS.out.1)
  go_wp2_with (fail)
  refine (CF.out _ (HE.out.below B9.out)).mono ?_; rintro e w10 ⟨hb10, A10, c10, rfl, ho10⟩
  have D10 := (Below.refl w10.heap.size w10).alloc (Nat.le_refl _) (.cells #[.int .i64 0, .int .i64 0] 26)
  have B10 := Kept.mk (below_step (below_step B9.out hb10) D10)
  have F1_10 := Fv.make w10 0 0
  obtain ⟨LD, hLD⟩ : ∃ L, Ppa.documentL (Ppa.deepL 60) = (L, 0, 0) := ⟨(Ppa.documentL (Ppa.deepL 60)).1, Prod.ext rfl Ppa.deep_told⟩
  obtain ⟨kD, hkD⟩ : ∃ k, LD.length = k := ⟨_, rfl⟩
  have CD := Kept.mk (doc_at (Y1 ++ Y2) LD 0 0 kD (by rw [catL, hY1.out, hY2.out]; exact hLD) hkD KS.out.2.2.1)
  clear hLD hkD
  go_wp2_with (fail)
  refine (CD.out _ (HE.out.below B10.out)).mono ?_; rintro e w11 ⟨hb11, A11, c11, rfl, ho11⟩
  have D11 := (Below.refl w11.heap.size w11).alloc (Nat.le_refl _) (.cells #[.int .i64 0, .int .i64 0] 26)
  have B11 := Kept.mk (below_step (below_step B10.out hb11) D11)
  have F1_11 := (F1_10.below hb11).below D11
  clear F1_10
  have F2_11 := Fv.make w11 0 0
  have s7 : ¬ 9223372036854775807 < 1 + Y5.size := by omega
  have s8 : ¬ 9223372036854775807 < 1 + Y5.size + 2 := by omega
  have s9 : ¬ 9223372036854775807 < 1 + Y5.size + 3 := by omega
  obtain ⟨LN, hLN⟩ : ∃ L, Ppa.documentL (Ppa.nameT 100) = (L, 0, 0) := ⟨(Ppa.documentL (Ppa.nameT 100)).1, Prod.ext rfl Ppa.name_told⟩
  obtain ⟨kN, hkN⟩ : ∃ k, LN.length = k := ⟨_, rfl⟩
  have e1 : (⟨#[60]⟩ : ByteArray).size = 1 := rfl
  have e2 : (⟨#[47, 62]⟩ : ByteArray).size = 2 := rfl
  have e3 : (⟨#[110, 47, 62]⟩ : ByteArray).size = 3 := rfl
  have KT : Kept (((⟨#[60]⟩ : ByteArray) ++ Y5 ++ (⟨#[47, 62]⟩ : ByteArray)).size ≤ 1000000 ∧ ((⟨#[60]⟩ : ByteArray) ++ Y5 ++ (⟨#[110, 47, 62]⟩ : ByteArray)).size ≤ 1000000) := ⟨by simp only [ByteArray.size_append]; omega⟩
  clear e1 e2 e3
  have CN := Kept.mk (doc_at ((⟨#[60]⟩ : ByteArray) ++ Y5 ++ (⟨#[47, 62]⟩ : ByteArray)) LN 0 0 kN (by rw [catL, catL, hY5.out]; exact hLN) hkN KT.out.1)
  clear hLN hkN
  go_wp2_with (fail)
  refine (CN.out _ (HE.out.below B11.out)).mono ?_; rintro e w12 ⟨hb12, A12, c12, rfl, ho12⟩
  have D12 := (Below.refl w12.heap.size w12).alloc (Nat.le_refl _) (.cells #[.int .i64 0, .int .i64 0] 26)
  have B12 := Kept.mk (below_step (below_step B11.out hb12) D12)
  have F1_12 := (F1_11.below hb12).below D12
  have F2_12 := (F2_11.below hb12).below D12
  clear F1_11 F2_11
  have F3_12 := Fv.make w12 0 0
  have F1a := F1_12.c0
  have F1b := F1_12.c1
  have F2a := F2_12.c0
  have F2b := F2_12.c1
  have F3a := F3_12.c0
  have F3b := F3_12.c1
  have T1 : Flts ((⟨#[60, 97, 62]⟩ : ByteArray) ++ Y7 ++ (⟨#[60, 47, 97, 62]⟩ : ByteArray)) 3 0 := ⟨by rw [catL, catL, hY7.out]; exact Ppa.many_told, KS.out.2.1⟩
  have T2 : Flts (Y3 ++ Y4) 131 180 := ⟨by rw [catL, hY3.out, hY4.out]; exact Ppa.deeper_told, KS.out.2.2.2⟩
  have T3 : Flts ((⟨#[60]⟩ : ByteArray) ++ Y5 ++ (⟨#[110, 47, 62]⟩ : ByteArray)) 130 101 := ⟨by rw [catL, catL, hY5.out]; exact Ppa.name_long, KT.out.2⟩
  have K1 := Kept.mk T1
  have K2 := Kept.mk T2
  have K3 := Kept.mk T3
  clear T1 T2 T3
  go_wp2_with (fail)
  refine (fault_any _ 3 0 _ (HE.out.below B12.out) K1.out).mono ?_; rintro e w13 ⟨rfl, hb13⟩
  have B13 := Kept.mk (below_step B12.out hb13)
  have F1_13 := F1_12.below hb13
  have F2_13 := F2_12.below hb13
  have F3_13 := F3_12.below hb13
  clear F1_12 F2_12 F3_12
  clear hb13
  go_wp2_with (fail)
  refine (fault_any _ 131 180 _ (HE.out.below B13.out) K2.out).mono ?_; rintro e w14 ⟨rfl, hb14⟩
  have B14 := Kept.mk (below_step B13.out hb14)
  have F1_14 := F1_13.below hb14
  have F2_14 := F2_13.below hb14
  have F3_14 := F3_13.below hb14
  clear F1_13 F2_13 F3_13
  clear hb14
  go_wp2_with (fail)
  refine (fault_any _ 130 101 _ (HE.out.below B14.out) K3.out).mono ?_; rintro e w15 ⟨rfl, hb15⟩
  have B15 := Kept.mk (below_step B14.out hb15)
  have F1_15 := F1_14.below hb15
  have F2_15 := F2_14.below hb15
  have F3_15 := F3_14.below hb15
  clear F1_14 F2_14 F3_14
  clear hb15
  go_wp2_with (fail)
  refine (rep_8 _).mono ?_; rintro e w16 ⟨Y8, rfl, hY8, hz8, hb16⟩
  have B16 := Kept.mk (below_step B15.out hb16)
  have F1_16 := F1_15.below hb16
  have F2_16 := F2_15.below hb16
  have F3_16 := F3_15.below hb16
  clear F1_15 F2_15 F3_15
  have K8 : Kept (Flts Y8 3 0) := ⟨⟨by rw [hY8.out]; exact Ppa.allM_long (by rw [Ppa.rep_len]; decide), by omega⟩⟩
  clear hb16
  go_wp2_with (fail)
  refine (fault_any _ 3 0 _ (HE.out.below B16.out) K8.out).mono ?_; rintro e w17 ⟨rfl, hb17⟩
  have B17 := Kept.mk (below_step B16.out hb17)
  have F1_17 := F1_16.below hb17
  have F2_17 := F2_16.below hb17
  have F3_17 := F3_16.below hb17
  clear F1_16 F2_16 F3_16
  clear hb17
  go_wp2_with (fail)
  refine (rep_9 _).mono ?_; rintro e w18 ⟨Y9, rfl, hY9, hz9, hb18⟩
  have B18 := Kept.mk (below_step B17.out hb18)
  have F1_18 := F1_17.below hb18
  have F2_18 := F2_17.below hb18
  have F3_18 := F3_17.below hb18
  clear F1_17 F2_17 F3_17
  have K9 : Kept (Flts Y9 130 65536) := ⟨⟨by rw [hY9.out]; exact Ppa.blanks_told, by omega⟩⟩
  clear hb18
  go_wp2_with (fail)
  refine (fault_any _ 130 65536 _ (HE.out.below B18.out) K9.out).mono ?_; rintro e w19 ⟨rfl, hb19⟩
  have B19 := Kept.mk (below_step B18.out hb19)
  have F1_19 := F1_18.below hb19
  have F2_19 := F2_18.below hb19
  have F3_19 := F3_18.below hb19
  clear F1_18 F2_18 F3_18
  clear hb19
  clear F1_19 F2_19 F3_19 F1a F1b F2a F2b F3a F3b
  go_wp2_with (fail)
  refine (fault_any _ 120 3 _ (HE.out.below B19.out) ⟨Ppa.odd_told1, by decide⟩).mono ?_; rintro e w20 ⟨rfl, hb20⟩
  have B20 := Kept.mk (below_step B19.out hb20)
  clear hb20
  go_wp2_with (fail)
  refine (fault_any _ 120 3 _ (HE.out.below B20.out) ⟨Ppa.odd_told2, by decide⟩).mono ?_; rintro e w21 ⟨rfl, hb21⟩
  have B21 := Kept.mk (below_step B20.out hb21)
  clear hb21
  go_wp2_with (fail)
  refine (fault_any _ 120 0 _ (HE.out.below B21.out) ⟨Ppa.odd_told3, by decide⟩).mono ?_; rintro e w22 ⟨rfl, hb22⟩
  have B22 := Kept.mk (below_step B21.out hb22)
  clear hb22
  go_wp2_with (fail)
  refine (fault_any _ 282 9 _ (HE.out.below B22.out) ⟨Ppa.odd_told4, by decide⟩).mono ?_; rintro e w23 ⟨rfl, hb23⟩
  have B23 := Kept.mk (below_step B22.out hb23)
  clear hb23
  go_wp2_with (fail)
  refine (fault_any _ 130 15 _ (HE.out.below B23.out) ⟨Ppa.odd_told5, by decide⟩).mono ?_; rintro e w24 ⟨rfl, hb24⟩
  have B24 := Kept.mk (below_step B23.out hb24)
  clear hb24
  go_wp2_with (fail)
  refine (rep_1 _).mono ?_; rintro e w25 ⟨Z1, rfl, hZ1, hu1, hb25⟩
  have B25 := Kept.mk (below_step B24.out hb25)
  have s10 : ¬ 9223372036854775807 < Z1.size + 14 := by omega
  clear hb25
  go_wp2_with (fail)
  refine (rep_2 _).mono ?_; rintro e w26 ⟨Z2, rfl, hZ2, hu2, hb26⟩
  have B26 := Kept.mk (below_step B25.out hb26)
  have s11 : ¬ 9223372036854775807 < Z1.size + 14 + Z2.size := by omega
  clear hb26
  have e14 : (⟨#[60, 97, 32, 120, 61, 39, 39, 32, 120, 61, 39, 39, 47, 62]⟩ : ByteArray).size = 14 := rfl
  have KB : Kept (Flts (Z1 ++ (⟨#[60, 97, 32, 120, 61, 39, 39, 32, 120, 61, 39, 39, 47, 62]⟩ : ByteArray) ++ Z2) 282 188) := ⟨⟨by rw [catL, catL, hZ1.out, hZ2.out]; exact Ppa.both_told, by simp only [ByteArray.size_append]; omega⟩⟩
  clear e14
  go_wp2_with (fail)
  refine (fault_any _ 282 188 _ (HE.out.below B26.out) KB.out).mono ?_; rintro e w27 ⟨rfl, hb27⟩
  have B27 := Kept.mk (below_step B26.out hb27)
  clear hb27
  have R15 := Kept.mk (rdn_lit w27 Ppa.exN15 35)
  have BW := Kept.mk (below_step B27.out ((Below.refl w27.heap.size w27).alloc (Nat.le_refl _) (.cells (ndsC Ppa.exN15).toArray 35)))
  go_wp2_with (fail)
  refine (C15.out _ ⟨by kernel_rfl⟩ _ (HE.out.below BW.out)).mono ?_; rintro e w28 ⟨hb28, A28, c28, rfl, ho28⟩
  have D28 := (Below.refl w28.heap.size w28).alloc (Nat.le_refl _) (.cells #[.int .i64 0, .int .i64 0] 26)
  have B28 := Kept.mk (below_step (below_step BW.out hb28) D28)
  have N15 := Kept.mk (own_below ho28 D28)
  have V15 := Fv.make w28 0 0
  have v15a := V15.c0
  have v15b := V15.c1
  have W15 := Kept.mk ((R15.out.below hb28).below D28)
  clear R15 BW hb28 ho28 D28
  go_wp2_with (fail)
  refine (same_15 _ _ _ _ N15.out W15.out).mono ?_; rintro e w29 ⟨rfl, hb29⟩
  have B29 := Kept.mk (below_step B28.out hb29)
  clear hb29
  clear V15 v15a v15b N15 W15
  go_wp2_with (fail)
  refine (law_tells _ _ (HE.out.below B29.out)).mono ?_; rintro e w30 ⟨rfl, hb30⟩
  have B30 := Kept.mk (below_step B29.out hb30)
  clear hb30
  go_wp2_with (fail)
  refine (law_tells _ _ (HE.out.below B30.out)).mono ?_; rintro e w31 ⟨rfl, hb31⟩
  have B31 := Kept.mk (below_step B30.out hb31)
  clear hb31
  go_wp2_with (fail)
  refine (law_tells _ _ (HE.out.below B31.out)).mono ?_; rintro e w32 ⟨rfl, hb32⟩
  have B32 := Kept.mk (below_step B31.out hb32)
  clear hb32
  go_wp2_with (fail)
  refine (law_tells _ _ (HE.out.below B32.out)).mono ?_; rintro e w33 ⟨rfl, hb33⟩
  have B33 := Kept.mk (below_step B32.out hb33)
  clear hb33
  go_wp2_with (fail)
  refine (law_tells _ _ (HE.out.below B33.out)).mono ?_; rintro e w34 ⟨rfl, hb34⟩
  have B34 := Kept.mk (below_step B33.out hb34)
  clear hb34
  go_wp2_with (fail)
  refine (frag_call [] [] 0 0 0 Ppa.frag_told1 rfl (by decide) _ (HE.out.below B34.out)).mono ?_; rintro e w35 ⟨hb35, A35, c35, rfl, ho35⟩
  have D35 := (Below.refl w35.heap.size w35).alloc (Nat.le_refl _) (.cells #[.int .i64 0, .int .i64 0] 26)
  have B35 := Kept.mk (below_step (below_step B34.out hb35) D35)
  have G1_35 := Fv.make w35 0 0
  go_wp2_with (fail)
  refine (frag_call [60, 63, 120, 109, 108, 32, 118, 101, 114, 115, 105, 111, 110, 61, 34, 49, 46, 48, 34, 63, 62] [] 130 5 0 Ppa.frag_told2 rfl (by decide) _ (HE.out.below B35.out)).mono ?_; rintro e w36 ⟨hb36, A36, c36, rfl, ho36⟩
  have D36 := (Below.refl w36.heap.size w36).alloc (Nat.le_refl _) (.cells #[.int .i64 130, .int .i64 5] 26)
  have B36 := Kept.mk (below_step (below_step B35.out hb36) D36)
  have G1_36 := (G1_35.below hb36).below D36
  clear G1_35
  have G2_36 := Fv.make w36 130 5
  go_wp2_with (fail)
  refine (frag_call [60, 47, 97, 62] [] 130 1 0 Ppa.frag_told3 rfl (by decide) _ (HE.out.below B36.out)).mono ?_; rintro e w37 ⟨hb37, A37, c37, rfl, ho37⟩
  have D37 := (Below.refl w37.heap.size w37).alloc (Nat.le_refl _) (.cells #[.int .i64 130, .int .i64 1] 26)
  have B37 := Kept.mk (below_step (below_step B36.out hb37) D37)
  have G1_37 := (G1_36.below hb37).below D37
  have G2_37 := (G2_36.below hb37).below D37
  clear G1_36 G2_36
  have G3_37 := Fv.make w37 130 1
  go_wp2_with (fail)
  refine (frag_call [60, 33, 91, 67, 68, 65, 84, 65, 91, 60, 93, 93, 62, 38, 103, 116, 59] [(4, [], [60, 62], -1)] 0 0 1 Ppa.frag_told4 rfl (by decide) _ (HE.out.below B37.out)).mono ?_; rintro e w38 ⟨hb38, A38, c38, rfl, ho38⟩
  have D38 := (Below.refl w38.heap.size w38).alloc (Nat.le_refl _) (.cells #[.int .i64 0, .int .i64 0] 26)
  have B38 := Kept.mk (below_step (below_step B37.out hb38) D38)
  have G1_38 := (G1_37.below hb38).below D38
  have G2_38 := (G2_37.below hb38).below D38
  have G3_38 := (G3_37.below hb38).below D38
  clear G1_37 G2_37 G3_37
  have G4_38 := Fv.make w38 0 0
  have O4 := own_below ho38 D38
  obtain ⟨g4, hA4, hc4⟩ : ∃ g4, A38 = some ⟨g4, 0, none⟩ ∧ (w38.alloc (.cells #[.int .i64 0, .int .i64 0] 26)).cell? ⟨g4, 2, none⟩ = some (.string ⟨#[60, 62]⟩) := by
    obtain ⟨b4, e4, h1, h2⟩ := own_some O4 (by decide)
    subst e4
    exact ⟨b4, rfl, own_at O4 2 _ rfl⟩
  subst hA4
  have G1a := G1_38.c0
  have G1b := G1_38.c1
  have G2a := G2_38.c0
  have G2b := G2_38.c1
  have G3a := G3_38.c0
  have G3b := G3_38.c1
  have G4a := G4_38.c0
  have G4b := G4_38.c1
  go_wp2_with (fail)
  go_ret
  exact ⟨rfl, B38.out⟩
end Go.Proofs.YtlemdhfekdiaeaaGreatDoor.Wps
