/- The walk over ParseCut (chapter 07). -/
import Derived.Test.YtmdbjoebcolcfaaDoorParseLs
import Derived.Test.YtmdbjoebcolcfaaDoorParseMv
namespace Go.Proofs.YtmdbjoebcolcfaaDoor.Wps
open Go Go.RowKit Go.Proofs.YtmdbjoebcolcfaaDoor.Kb Go.Proofs.YtmdbjoebcolcfaaDoor.Wch Go.Proofs.YtmdbjoebcolcfaaDoor.Wtr Go.Proofs.YtmdbjoebcolcfaaDoor.Flt

theorem neq_of_eql {t : TypeId} {u v : Array Value} {b : Bool} {w : World} (h : (binOp .eql t (.agg u) (.agg v)).run Tryd.prog w = .ok (.bool b) w) : (binOp .neq t (.agg u) (.agg v)).run Tryd.prog w = .ok (.bool !b) w := by
  rw [run_eql_struct] at h
  rw [run_neq_struct]
  revert h
  cases (Op.equalIn 10000 t (.agg u) (.agg v)).run Tryd.prog w with
  | ok c w' => intro h; simp at h ⊢; exact ⟨by rw [h.1], h.2⟩
  | halt x w' => intro h; simp at h
theorem eql_fault_not {x x' : Int} (y y' : Int) (h : x ≠ x') (w : World) : (binOp .eql 26 (.agg #[.int .i64 x, .int .i64 y]) (.agg #[.int .i64 x', .int .i64 y'])).run Tryd.prog w = .ok (.bool false) w := by
  have u0 := Tryd.underlying24
  have u1 := Tryd.underlying3
  have a0 := Tryd.isAgg24
  have a1 := Tryd.isAgg3
  have hS : Tryd.prog.underlying 26 = some (.struct (Tryd.prog.fieldsOf 26)) := by kernel_rfl
  rw [run_eql_struct, show (10000 : Nat) = 9999 + 1 from rfl, run_equalIn_agg w 9999 26 _ _ hS (by kernel_rfl)]
  simp only [Program.fieldsOf, Tryd.underlying26]
  go_simp
  try simp [h]
theorem doc_told {S : ByteArray} {L : List Ptr.Nd} {x y : Int} {n : Nat} (h : Ppa.documentL S.data.toList = (L, x, y)) (hn : L.length = n) (hs : S.size ≤ 1000000) (wx : World) (hx : Ev wx) : Calls Tryd.prog 6 #[.string S] wx fun e w' => Below wx.heap.size wx w' ∧ ∃ A c, e = .returned (.tuple #[.slice A n c, .agg #[.int .i64 x, .int .i64 y]]) ∧ w'.ownsRow wx.heap.size 33 4 (.slice A n c) n (ndsC L) := by
  have h' := document_any S wx hx hs
  rw [h] at h'
  subst hn
  exact h'
set_option maxRecDepth 100000 in
set_option maxHeartbeats 4000000 in
theorem law_cut (s more : ByteArray) (w : World) (hz : s.size ≤ 140737488355328) (hm : more.size ≤ 140737488355328) (he : Ev w) :
    Calls Tryd.prog 3 #[.string s, .string more] w fun e w' => e = .returned (.bool true) ∧ Below w.heap.size w w' := by
  have HT := Kept.mk he
  clear he
  by_cases hs : 6000 < s.size + more.size
  · have hs' : (6000 : Int) < (s.size : Int) + (more.size : Int) := by omega
    go_enter Tryd.func3, Tryd.ntmps3
    go_wp2_with (fail)
    refine (awake_any _ HT.out).mono ?_; rintro e w1 ⟨rfl, hb1⟩
    go_wp2_with (fail)
    go_ret
    exact ⟨rfl, hb1⟩
  have hs' : ¬ (6000 : Int) < (s.size : Int) + (more.size : Int) := by omega
  obtain ⟨L, x, y, hL⟩ : ∃ L x y, Ppa.documentL s.data.toList = (L, x, y) := ⟨_, _, _, rfl⟩
  obtain ⟨n, hn⟩ : ∃ n, L.length = n := ⟨_, rfl⟩
  have CD := Kept.mk (doc_told hL hn (by omega))
  by_cases hx : x = 130
  · subst hx
    obtain ⟨k, rfl, hk, hc1, hc2⟩ := Ppa.cut_law (more := more.data.toList) (by rw [size_len, size_len]; omega) hL
    rw [size_len] at hk hc2
    obtain ⟨L1, x1, y1, hL1⟩ : ∃ L x y, Ppa.documentL (s.extract 0 k).data.toList = (L, x, y) := ⟨_, _, _, rfl⟩
    obtain ⟨n1, hn1⟩ : ∃ n, L1.length = n := ⟨_, rfl⟩
    obtain ⟨L2, x2, y2, hL2⟩ : ∃ L x y, Ppa.documentL (s ++ more).data.toList = (L, x, y) := ⟨_, _, _, rfl⟩
    obtain ⟨n2, hn2⟩ : ∃ n, L2.length = n := ⟨_, rfl⟩
    have CD1 := Kept.mk (doc_told hL1 hn1 (by rw [ByteArray.size_extract]; omega))
    have CD2 := Kept.mk (doc_told hL2 hn2 (by rw [ByteArray.size_append]; omega))
    have hE1 : (s.extract 0 k).data.toList = s.data.toList.take k := by simp
    have hE2 : (s ++ more).data.toList = s.data.toList ++ more.data.toList := by simp
    rw [hE1] at hL1
    rw [hE2] at hL2
    rw [hL1] at hc1
    rw [hL2] at hc2
    dsimp only at hc1 hc2
    have k0 : ¬ (k : Int) < 0 := by omega
    have k1 : ¬ (s.size : Int) < (k : Int) := by omega
    have HG : Kept ((∃ b, (∀ wx, (binOp .neq 26 (.agg #[.int .i64 x1, .int .i64 y1]) (.agg #[.int .i64 130, .int .i64 (k : Int)])).run Tryd.prog wx = .ok (.bool b) wx) ∧ (b = true → x1 = 0 ∨ x1 = 282 ∨ x1 = 131 ∨ x1 = 3))) := by
      constructor
      rcases hc1 with h | h
      · injection h with h1 h2
        subst h1 h2
        exact ⟨false, fun wx => neq_of_eql (eql_fault _ _ wx), fun h => by cases h⟩
      · refine ⟨true, fun wx => neq_of_eql (eql_fault_not _ _ (by rcases h with h | h | h | h <;> (rw [h]; decide)) wx), fun _ => h⟩
    have HC2 := Kept.mk hc2
    clear hL hL1 hL2 hc1 hc2 hn hn1 hn2 hE1 hE2
    obtain ⟨b, hb, hbt⟩ := HG.out
    have HB := Kept.mk hbt
    clear HG hbt
    go_enter Tryd.func3, Tryd.ntmps3
    go_wp2_with (fail)
    refine (awake_any _ HT.out).mono ?_; rintro e w1 ⟨rfl, hb1⟩
    have B1 := Kept.mk hb1
    clear hb1
    go_wp2_with (fail)
    refine (CD.out _ (HT.out.below B1.out)).mono ?_; rintro e w2 ⟨hb2, A2, c2, rfl, ho2⟩
    have D2 := (Below.refl w2.heap.size w2).alloc (Nat.le_refl _) (.cells #[.int .i64 130, .int .i64 (k : Int)] 26)
    have B2 := Kept.mk (below_step (below_step B1.out hb2) D2)
    have V2 := Fv.make w2 130 (k : Int)
    have p0 := V2.c0
    have p1 := V2.c1
    clear hb2 ho2 D2
    go_wp2_with (fail)
    refine (CD1.out _ (HT.out.below B2.out)).mono ?_; rintro e w3 ⟨hb3, A3, c3, rfl, ho3⟩
    have D3 := (Below.refl w3.heap.size w3).alloc (Nat.le_refl _) (.cells #[.int .i64 x1, .int .i64 y1] 26)
    have B3 := Kept.mk (below_step (below_step B2.out hb3) D3)
    have V2b := (V2.below hb3).below D3
    have V3 := Fv.make w3 x1 y1
    have q0 := V2b.c0
    have q1 := V2b.c1
    have r0 := V3.c0
    have r1 := V3.c1
    clear hb3 ho3 D3 V2 p0 p1
    obtain hbb : b = false ∨ (b = true ∧ x1 = 0) ∨ (b = true ∧ x1 = 282) ∨ (b = true ∧ x1 = 131) ∨ (b = true ∧ x1 = 3) := by
      cases b with
      | false => exact .inl rfl
      | true => exact .inr (by rcases HB.out rfl with h | h | h | h <;> simp [h])
    rcases hbb with rfl | ⟨rfl, rfl⟩ | ⟨rfl, rfl⟩ | ⟨rfl, rfl⟩ | ⟨rfl, rfl⟩
    all_goals
      clear HB
      go_wp2_with (fail)
      refine (CD2.out _ (HT.out.below B3.out)).mono ?_; rintro e w4 ⟨hb4, A4, c4, rfl, ho4⟩
      have D4 := (Below.refl w4.heap.size w4).alloc (Nat.le_refl _) (.cells #[.int .i64 x2, .int .i64 y2] 26)
      have B4 := Kept.mk (below_step (below_step B3.out hb4) D4)
      have V2c := (V2b.below hb4).below D4
      have V4 := Fv.make w4 x2 y2
      have u0 := V2c.c0
      have u1 := V2c.c1
      have v0 := V4.c0
      have v1 := V4.c1
      clear hb4 ho4 D4 V2b V3 q0 q1 r0 r1 hb
      by_cases hks : k = s.size
      · clear HC2
        have e1 : ((k : Int) == (s.size : Int)) = true := by simp [hks]
        go_wp2_with (fail)
        go_ret
        exact ⟨rfl, B4.out⟩
      · have e1 : ((k : Int) == (s.size : Int)) = false := by simp; omega
        rcases HC2.out with h | h | h
        · exact absurd h hks
        · subst h
          go_wp2_with (fail)
          go_ret
          exact ⟨rfl, B4.out⟩
        · injection h with h1 h2
          subst h1 h2
          have qe := fun wx => eql_fault 130 (k : Int) wx
          go_wp2_with (fail)
          go_ret
          exact ⟨rfl, B4.out⟩
  · clear hL hn
    have hx1 : ¬ x = 130 := hx
    have e1 : (x != 130) = true := by simpa using hx
    clear hx
    go_enter Tryd.func3, Tryd.ntmps3
    go_wp2_with (fail)
    refine (awake_any _ HT.out).mono ?_; rintro e w1 ⟨rfl, hb1⟩
    have B1 := Kept.mk hb1
    clear hb1
    go_wp2_with (fail)
    refine (CD.out _ (HT.out.below B1.out)).mono ?_; rintro e w2 ⟨hb2, A2, c2, rfl, ho2⟩
    have D2 := (Below.refl w2.heap.size w2).alloc (Nat.le_refl _) (.cells #[.int .i64 x, .int .i64 y] 26)
    have B2 := Kept.mk (below_step (below_step B1.out hb2) D2)
    have V2 := Fv.make w2 x y
    have p0 := V2.c0
    clear hb2 ho2 D2
    go_wp2_with (fail)
    go_ret
    exact ⟨rfl, B2.out⟩
end Go.Proofs.YtmdbjoebcolcfaaDoor.Wps
