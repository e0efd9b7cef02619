/- The walk over PrintParts (chapter 08). -/
import Derived.Test.YtemfmidhekdekaaGreatDoorPrintLn
import Derived.Test.YtemfmidhekdekaaGreatDoorPrintPq
import Derived.Test.YtemfmidhekdekaaGreatDoorTreePart
namespace Go.Proofs.YtemfmidhekdekaaGreatDoor.Wps
open Go Go.RowKit Go.Proofs.YtemfmidhekdekaaGreatDoor.Kb Go.Proofs.YtemfmidhekdekaaGreatDoor.Wch Go.Proofs.YtemfmidhekdekaaGreatDoor.Wtr Go.Proofs.YtemfmidhekdekaaGreatDoor.Flt Go.Proofs.YtemfmidhekdekaaGreatDoor.Ptr Go.Proofs.YtemfmidhekdekaaGreatDoor.Ppa

theorem ret_i648 {a b : Int} (h : a = b) : Ending.returned (.int .i64 a) = .returned (.int .i64 b) := by rw [h]
/-- which place is picked -/
def pickW (x : Int) (n : Nat) : Nat := (if x.tmod n < 0 then x.tmod n + n else x.tmod n).toNat
theorem pickW_lt (x : Int) (n : Nat) (hn : 0 < n) : pickW x n < n := by
  have hb1 : -(n : Int) < x.tmod n := Int.lt_tmod_of_pos x (by omega)
  have hb2 : x.tmod n < n := Int.tmod_lt_of_pos x (by omega)
  unfold pickW
  split <;> omega
set_option maxHeartbeats 1000000 in
theorem pick_w (x : Int) (n : Nat) (hn : 0 < n) (hm : n ≤ 100000) (w : World) : Calls Tryz.prog 12 #[.int .i64 x, .int .i64 n] w fun e w' => e = .returned (.int .i64 (pickW x n)) ∧ w = w' := by
  have hb1 : -(n : Int) < x.tmod n := Int.lt_tmod_of_pos x (by omega)
  have hb2 : x.tmod n < n := Int.tmod_lt_of_pos x (by omega)
  have n1 : ¬ (n : Int) < 1 := by omega
  have n2 : ¬ (n : Int) = 0 := by omega
  have n4 : (n : Int) ≤ 100000 := by omega
  have hv : Kept ((pickW x n : Int) = if x.tmod n < 0 then x.tmod n + n else x.tmod n) := ⟨by unfold pickW; split <;> omega⟩
  by_cases hx : x.tmod n < 0
  · have hv2 : Kept ((pickW x n : Int) = x.tmod n + n) := ⟨by rw [hv.out, if_pos hx]⟩
    clear hv
    go_enter Tryz.func12, Tryz.ntmps12
    go_wp2
    go_ret
    exact ⟨ret_i648 (by rw [hv2.out]), rfl⟩
  · have hv2 : Kept ((pickW x n : Int) = x.tmod n) := ⟨by rw [hv.out, if_neg hx]⟩
    clear hv
    go_enter Tryz.func12, Tryz.ntmps12
    go_wp2
    go_ret
    exact ⟨ret_i648 (by rw [hv2.out]), rfl⟩
theorem place_true {l : List Ptr.Nd} {i : Nat} (hC : chk l true = 0) (hi : i < l.length) : placeB l i = true := by
  unfold placeB
  rw [hC, decide_eq_true ⟨by omega, by omega⟩]
  rfl
theorem part_lines {l : List Ptr.Nd} (hC : chk l true = 0) {i : Nat} (hi : i < l.length) : partB l i = partN l i ∧ linesN (partN l i) = fragN l i ∧ (∀ k, k < (partN l i).length → (val (partN l i) k).length ≤ 65536) := by
  have hend := endN_spec l i hi
  have hpl := partN_len l i
  refine ⟨by unfold partB; rw [if_pos (place_true hC hi), Int.toNat_natCast], ?_, fun k hk => ?_⟩
  · apply List.ext_getElem?
    intro j
    by_cases hj : j < Ptr.endN l i - i
    · rw [lines_get (partN l i) (by omega)]
      have hg := partN_get l i j hj
      have hx : (partN l i).getD j nd0 = (kin l (i + j), nam l (i + j), val l (i + j), if j = 0 then -1 else par l (i + j) - i) := by rw [List.getD_eq_getElem?_getD, hg]; rfl
      have e1 : kin (partN l i) j = kin l (i + j) := by unfold kin; rw [show (partN l i).getD j nd0 = _ from hx]; rfl
      have e2 : nam (partN l i) j = nam l (i + j) := by unfold nam; rw [show (partN l i).getD j nd0 = _ from hx]; rfl
      have e3 : val (partN l i) j = val l (i + j) := by unfold val; rw [show (partN l i).getD j nd0 = _ from hx]; rfl
      have e4 : par (partN l i) j = if j = 0 then -1 else par l (i + j) - i := by unfold par; rw [show (partN l i).getD j nd0 = _ from hx]; rfl
      rw [e1, e2, e3, e4]
      unfold fragN
      cases j with
      | zero => rfl
      | succ j =>
        rw [List.getElem?_cons_succ]
        unfold seg
        rw [List.getElem?_map, List.getElem?_range' (by omega), if_neg (by omega)]
        show _ = some (ndO l i (i + 1 + 1 * j))
        rw [show i + 1 + 1 * j = i + (j + 1) by omega]
        rfl
    · rw [List.getElem?_eq_none (by rw [lines_len]; omega), List.getElem?_eq_none (by unfold fragN; rw [List.length_cons, seg_len]; omega)]
  · have hg := partN_get l i k (by omega)
    have e3 : val (partN l i) k = val l (i + k) := by unfold val; rw [List.getD_eq_getElem?_getD, hg]; rfl
    rw [e3]
    exact val_len (Ppr.chk_all hC) (by omega)
theorem own_any8 {w : World} {B size n c : Nat} {e : TypeId} {A : Option Addr} {xs : List Value} (h : w.ownsRow B e size (.slice A n c) n xs) (hn : 0 < n) : ∃ g, A = some ⟨g, 0, none⟩ ∧ n ≤ c ∧ g < w.heap.size := by
  rcases h.2 with ⟨_, h0⟩ | ⟨g, cap, cur, hv, hb, hg, hc, _⟩
  · omega
  · cases hv
    exact ⟨g, rfl, hc, (Array.getElem?_eq_some_iff.1 hg).1⟩
theorem frag_len (l : List Ptr.Nd) (i : Nat) (hi : i < l.length) : (fragN l i).length = Ptr.endN l i - i := by
  have := endN_spec l i hi
  unfold fragN
  rw [List.length_cons, seg_len]
  omega
theorem root_kids {l : List Ptr.Nd} (hC : chk l true = 0) (h0 : 0 < l.length) : kidsB l 0 false = Ppr.childs l 0 ∧ Ppr.prN l 0 = (Ppr.childs l 0).flatMap (Ppr.prN l) := by
  obtain ⟨hl, hA, hr, hd⟩ := chk_inv hC
  have hrng := Ppr.tree_rng hA
  have h1 := one_top hrng (hr rfl).1
  have hk := root_one hA h0
  obtain ⟨a1, a2, a3, a4⟩ := endN_spec l 0 h0
  have he : Ptr.endN l 0 = l.length := by
    apply Classical.byContradiction
    intro hne
    have hlt : Ptr.endN l 0 < l.length := by omega
    have := h1 (Ptr.endN l 0) hlt (by have := a4 hlt; omega)
    omega
  constructor
  · unfold kidsB
    rw [if_pos (show placeB l 0 = true from place_true (i := 0) hC h0), show (0 : Int).toNat = 0 from rfl, he]
    unfold Ppr.childs kidsL
    have hp0 := hrng 0 h0
    rw [show l.length - 0 = (l.length - (0 + 1)) + 1 by omega, List.range'_succ, List.filter_cons, if_neg (by
      have : ¬ par l 0 = 0 := by omega
      simp [this])]
  · rw [Ppr.prN_at hrng h0, if_neg (by omega), if_neg (by omega), if_neg (by omega), if_neg (by omega), if_pos hk]
theorem flat_take {f : Nat → List UInt8} (L : List Nat) (k : Nat) : ((L.take k).flatMap f).length ≤ (L.flatMap f).length := by
  rw [← List.take_append_drop k L, List.flatMap_append, List.take_append_drop, List.length_append]
  omega
theorem frag_told8 {S : ByteArray} {L : List Ptr.Nd} {x y : Int} {n : Nat} (h : Ppa.fragmentL S.data.toList = (L, x, y)) (hn : L.length = n) (hs : S.size ≤ 1000000) (wx : World) (hx : Ev wx) : Calls Tryz.prog 7 #[.string S] wx fun e w' => Below wx.heap.size wx w' ∧ ∃ A c, e = .returned (.tuple #[.slice A n c, .agg #[.int .i64 x, .int .i64 y]]) ∧ w'.ownsRow wx.heap.size 32 4 (.slice A n c) n (ndsC L) := by
  have h' := fragment_any S wx hx hs
  rw [h] at h'
  subst hn
  exact h'
set_option maxRecDepth 100000 in
set_option maxHeartbeats 8000000 in
theorem law_parts (A : Option Addr) (l : List Ptr.Nd) (c : Nat) (a : Int) (w : World) (hr : RdN w A l) (hc : A = none → c = 0) (hlc : l.length ≤ c) (hp : FitP l) (hf : Wpr.FitW l) (he : Ev w) (hR : Wtr.Rules w) :
    Calls Tryz.prog 4 #[.slice A l.length c, .int .i64 a] w fun e w' => e = .returned (.bool true) ∧ Below w.heap.size w w' := by
  have HT := Kept.mk he
  have HR := Kept.mk (tenv8 he hR)
  have HN := Kept.mk hr
  have CG := Kept.mk (fun wx (h : Below w.heap.size w wx) => Wpr.great_any A l c wx (hr.below h) hf)
  have HP := Kept.mk hp
  clear he hR hr hf hp
  go_enter Tryz.func4, Tryz.ntmps4
  go_wp2_with (fail)
  refine (Wpr.awake_any _ HR.out).mono ?_; rintro e w1 ⟨rfl, hb1⟩
  have B1 := Kept.mk hb1
  clear hb1
  go_wp2_with (fail)
  refine (CG.out _ B1.out).mono ?_; rintro e w2 ⟨⟨b, rfl, hb, hb2⟩⟩
  have B2 := Kept.mk (below_step B1.out hb2)
  clear CG hb2 B1
  cases b with
  | true =>
    go_wp2_with (fail)
    go_ret
    exact ⟨rfl, B2.out⟩
  | false =>
    obtain ⟨hl, hs⟩ := hb rfl
    have hZ := Wpr.sumN_all hl hs
    have hl2 : l.length ≤ 100000 := by omega
    have CK := Kept.mk (fun wx (h : Below w.heap.size w wx) => check_any A l c wx (HN.out.below h) hl2 HP.out (HR.out.below h))
    by_cases h0 : chk l true = 0
    · have hln := Ppr.chk_pos h0
      have hA := Ppr.chk_all h0
      have hp0 : Ppr.prR l = (Ppr.prN l 0, 0) := if_pos h0
      obtain ⟨hk1, hk2⟩ := root_kids h0 hln
      have hwt : ∀ j, j < l.length → (Ppr.prN l j).length ≤ 1000000000 := fun j hj => Nat.le_trans (Ppr.pr_wt hA hj) hZ
      have CP : Kept (∀ wx, Below w.heap.size w wx → Calls Tryz.prog 15 #[.slice A l.length c] wx fun e w' => e = .returned (.tuple #[.string ⟨((Ppr.childs l 0).flatMap (Ppr.prN l)).toArray⟩, .int .i64 0]) ∧ Below wx.heap.size wx w') := ⟨fun wx h => by
        have h := Wpr.Print_any A l c wx (HN.out.below h) hl2 HP.out (HR.out.below h) hZ
        rw [hp0, hk2] at h
        exact h⟩
      have CN : Kept (∀ (j : Nat) wx, j < l.length → Below w.heap.size w wx → Calls Tryz.prog 13 #[.slice A l.length c, .int .i64 (j : Int)] wx fun e w' => e = .returned (.tuple #[.string ⟨(Ppr.prN l j).toArray⟩, .int .i64 0]) ∧ Below wx.heap.size wx w') := ⟨fun j wx hj h => by
        have h := Wpr.Node_any A l c j wx (HN.out.below h) hl2 HP.out (HR.out.below h) hZ
        unfold Ppr.ndR at h
        rw [if_neg (by rintro ⟨h1, _⟩; exact h1 h0), if_neg (by omega), Int.toNat_natCast] at h
        exact h⟩
      have CD : Kept (∀ wx, Below w.heap.size w wx → Calls Tryz.prog 14 #[.slice A l.length c, .int .i64 0] wx fun e w' => ∃ v, e = .returned v ∧ w'.ownsRow wx.heap.size 3 1 v (Ppr.childs l 0).length (ic (Ppr.childs l 0)) ∧ Below wx.heap.size wx w') := ⟨fun wx h => by
        have h := Kids_any A l c 0 wx (HN.out.below h) hl2 HP.out (HR.out.below h)
        rw [hk1] at h
        exact h⟩
      obtain ⟨k, hk⟩ : ∃ k, pickW a l.length = k := ⟨_, rfl⟩
      have hkl : k < l.length := by rw [← hk]; exact pickW_lt a _ hln
      have CI : Kept (∀ wx : World, Calls Tryz.prog 12 #[.int .i64 a, .int .i64 l.length] wx fun e w' => e = .returned (.int .i64 (k : Int)) ∧ wx = w') := ⟨fun wx => by rw [← hk]; exact pick_w a l.length hln hl2 wx⟩
      have hcm : Kept (∀ j ∈ Ppr.childs l 0, j < l.length) := ⟨fun j hj => (Ppr.childs_mem (Ppr.tree_rng hA) hj).2⟩
      have hct : Kept (∀ m, (((Ppr.childs l 0).take m).flatMap (Ppr.prN l)).length ≤ 1000000000) := ⟨fun m => Nat.le_trans (flat_take _ _) (by rw [← hk2]; exact hwt 0 hln)⟩
      rw [h0] at CK
      have H0 := Kept.mk h0
      have HL : Kept ((Ppr.childs l 0).length ≤ l.length) := ⟨by unfold Ppr.childs kidsL; exact Nat.le_trans (List.length_filter_le _ _) (by simp)⟩
      have HW := Kept.mk hwt
      clear hb hs hZ hk hk1 hk2 hp0 hA h0 hwt
      generalize Ppr.childs l 0 = L at CP CD hcm hct HL
      go_wp2_with (fail)
      refine (CK.out _ B2.out).mono ?_; rintro e w3 ⟨rfl, hb3⟩
      have B3 := Kept.mk (below_step B2.out hb3)
      clear hb3 B2
      go_wp2_with (fail)
      refine (CI.out _).mono ?_; rintro e w4 ⟨rfl, rfl⟩
      go_wp2_with (fail)
      refine (CN.out k _ hkl B3.out).mono ?_; rintro e w4 ⟨rfl, hb4⟩
      have B4 := Kept.mk (below_step B3.out hb4)
      clear hb4 B3
      generalize hS : (⟨(Ppr.prN l k).toArray⟩ : ByteArray) = S
      have KS := Kept.mk hS
      clear hS
      go_wp2_with (fail)
      refine (CD.out _ B4.out).mono ?_; rintro e w5 ⟨v5, rfl, ho5, hb5⟩
      obtain ⟨A5, c5, rfl, hc5⟩ := own_slice ho5
      have B5 := Kept.mk (below_step B4.out hb5)
      have O5 := Kept.mk ho5
      have hL5 := HL.out
      clear ho5 hb5
      obtain ⟨n, hn⟩ : ∃ n, L.length = n := ⟨_, rfl⟩
      rw [hn] at O5 hL5 hc5 ⊢
      go_wp2_with (fail)
      go_loopw [7, 9] (fun T i wx => ∃ m : Nat, m ≤ n ∧ T = .string ⟨((L.take m).flatMap (Ppr.prN l)).toArray⟩ ∧ i = .int .i64 (m : Int) ∧ Kept (wx.ownsRow w4.heap.size 3 1 (.slice A5 n c5) n (ic L)) ∧ Kept (Below w.heap.size w wx)) (fun _ i _ => n - (intOf i).toNat)
      case atStart => exact ⟨0, by omega, rfl, rfl, O5, B5⟩
      case round =>
        obtain ⟨m, hm, rfl, rfl, HO, HB⟩ := hrel
        have m0 : (0 : Int) ≤ (m : Int) := by omega
        by_cases hlt : m < n
        · have m1 : (m : Int) < (n : Int) := by omega
          obtain ⟨g, hA5, hcn, hgl⟩ : ∃ g, A5 = some ⟨g, 0, none⟩ ∧ n ≤ c5 ∧ g < wr.heap.size := own_any8 HO.out (by omega)
          subst hA5
          have hx := List.getElem?_eq_getElem (l := L) (i := m) (by omega)
          have hin := hcm.out L[m] (List.getElem_mem _)
          have hc1 : wr.cell? ⟨g, m, none⟩ = some (.int .i64 (L[m] : Int)) := own_at HO.out m _ (by unfold ic; rw [List.getElem?_map, hx]; rfl)
          have hnext : (L.take (m + 1)).flatMap (Ppr.prN l) = (L.take m).flatMap (Ppr.prN l) ++ Ppr.prN l L[m] := by rw [List.take_add_one, hx, List.flatMap_append]; simp
          have ht1 := hct.out (m + 1)
          rw [hnext, List.length_append] at ht1
          have HX := Kept.mk hnext
          clear hx hnext
          generalize L[m] = j at hin hc1 ht1 HX
          obtain ⟨X, hX⟩ : ∃ X : ByteArray, X = ⟨((L.take m).flatMap (Ppr.prN l)).toArray⟩ := ⟨_, rfl⟩
          obtain ⟨Y, hY⟩ : ∃ Y : ByteArray, Y = ⟨(Ppr.prN l j).toArray⟩ := ⟨_, rfl⟩
          have hXY : (⟨((L.take (m + 1)).flatMap (Ppr.prN l)).toArray⟩ : ByteArray) = X ++ Y := by rw [HX.out, hX, hY]; apply ByteArray.ext; simp
          have s1 : X.size + Y.size ≤ 1000000000 := by rw [hX, hY, Lib.size_mk, Lib.size_mk]; exact ht1
          have s2 : ¬ 9223372036854775807 < X.size + Y.size := by omega
          have CN1 := CN.out j wr hin HB.out
          rw [← hY] at CN1
          rw [← hX]
          have CN1 := Kept.mk CN1
          have KX := Kept.mk hXY
          clear ht1 hX hY hXY HX
          go_wp2_with (fail)
          refine CN1.out.mono ?_; rintro e w6 ⟨rfl, hb6⟩
          have B6 := Kept.mk (below_step HB.out hb6)
          have O6 := Kept.mk (own_below HO.out hb6)
          clear hb6
          go_wp2
          go_roundw
          case rel => exact ⟨m + 1, by omega, by rw [KX.out], by go_num, O6, B6⟩
          case measure => simp [intOf]; omega
        · obtain rfl : m = n := by omega
          rw [List.take_of_length_le (by omega)]
          have B6 := HB
          clear HB
          go_wp2_with (fail)
          refine (CP.out _ B6.out).mono ?_; rintro e w7 ⟨rfl, hb7⟩
          have B7 := Kept.mk (below_step B6.out hb7)
          clear hb7 B6
          generalize (⟨(L.flatMap (Ppr.prN l)).toArray⟩ : ByteArray) = P
          obtain ⟨g, off, rfl, x0, x1, x2, x3⟩ := (HN.out.below B7.out).at_ hkl
          simp only at x0 x1 x2 x3
          have k0 : (0 : Int) ≤ (k : Int) := by omega
          have k1 : (k : Int) < (l.length : Int) := by omega
          clear x3 hcm hct CN CD CI CK HL O5
          by_cases h1 : kin l k = 1
          · rw [h1] at x0
            have y0 := beh_cell x0
            have y1 := beh_cell x1
            have y2 := beh_cell x2
            clear h1 x1 x2
            go_wp2
            refine wp_region_beh (by kernel_rfl) (by kernel_rfl) ?_
            repeat
              (refine Qw_step (fun K hK => ?_)
               go_simp
               first
                 | (refine hK _ ?_; clear hK K)
                 | (apply Exists.intro
                    refine ⟨fun _ => ?_, hK _ ?_⟩
                    (fail)
                    clear hK K))
            refine Qw_nil ?_
            rintro w8 ⟨⟨_, hb8⟩, rfl⟩
            have B8 := Kept.mk (below_step B7.out hb8)
            go_wp2
            go_ret
            exact ⟨rfl, B8.out⟩
          by_cases h3 : kin l k = 3
          · rw [h3] at x0
            have hpr : Ppr.prN l k = nam l k ++ 61 :: Ppr.quoL (val l k) := by rw [Ppr.prN_at (Ppr.tree_rng (Ppr.chk_all H0.out)) hkl, if_pos h3]
            obtain ⟨N, hN⟩ : ∃ N : ByteArray, N = ⟨(nam l k).toArray⟩ := ⟨_, rfl⟩
            obtain ⟨V, hV⟩ : ∃ V : ByteArray, V = ⟨(val l k).toArray⟩ := ⟨_, rfl⟩
            obtain ⟨Q, hQ⟩ : ∃ Q : ByteArray, Q = ⟨(Ppr.quoL (val l k)).toArray⟩ := ⟨_, rfl⟩
            have hSN : S = N ++ ⟨#[61]⟩ ++ Q := by
              rw [← KS.out, hpr, hN, hQ]
              apply ByteArray.ext
              simp
            have hvl := val_len (Ppr.chk_all H0.out) hkl
            have hw := HW.out k hkl
            rw [hpr, List.length_append, List.length_cons] at hw
            have sz : N.size + 1 + Q.size ≤ 1000000000 := by rw [hN, hQ, Lib.size_mk, Lib.size_mk]; omega
            have s1 : ¬ 9223372036854775807 < N.size + 1 := by omega
            have s2 : ¬ 9223372036854775807 < N.size + 1 + Q.size := by omega
            have CQ : Kept (∀ x : Beh w7, Calls Tryz.prog 8 #[.string V] x.fin fun e w' => e = .returned (.string Q) ∧ Below x.fin.heap.size x.fin w') := ⟨fun x => by
              have h := Wpr.Quote_any V x.fin (by rw [hV, Lib.size_mk]; omega)
              rw [hV] at h ⊢
              rw [hQ]
              exact h⟩
            rw [← hN] at x1
            rw [← hV] at x2
            have y0 := beh_cell x0
            have y1 := beh_cell x1
            have y2 := beh_cell x2
            clear h1 h3 hpr hN hV hQ hvl hw KS CP x1 x2
            subst hSN
            go_wp2
            refine wp_region_beh (by kernel_rfl) (by kernel_rfl) ?_
            repeat
              (refine Qw_step (fun K hK => ?_)
               go_simp
               first
                 | (refine hK _ ?_; clear hK K)
                 | (apply Exists.intro
                    refine ⟨fun _ => ?_, hK _ ?_⟩
                    (go_at_call 8; exact Calls.beh_of (CQ.out _))
                    clear hK K))
            refine Qw_nil ?_
            rintro w8 ⟨⟨_, hb8⟩, rfl⟩
            have B8 := Kept.mk (below_step B7.out hb8)
            go_wp2
            go_ret
            exact ⟨rfl, B8.out⟩
          have q1 : (((kin l k : Nat) : Int) == 1) = false := by simp; omega
          have q3 : (((kin l k : Nat) : Int) == 3) = false := by simp; omega
          by_cases hbig : 65536 < S.size
          · have hbig' : (65536 : Int) < (S.size : Int) := by omega
            have y0 := beh_cell x0
            have y1 := beh_cell x1
            have y2 := beh_cell x2
            have q3n : (((kin l k : Nat) : Int) != 3) = true := by simp; omega
            clear h1 h3 x1 x2
            generalize ((kin l k : Nat) : Int) = K at q1 q3 q3n x0 y0
            go_wp2
            refine wp_region_beh (by kernel_rfl) (by kernel_rfl) ?_
            repeat
              (refine Qw_step (fun K hK => ?_)
               go_simp
               first
                 | (refine hK _ ?_; clear hK K)
                 | (apply Exists.intro
                    refine ⟨fun _ => ?_, hK _ ?_⟩
                    (fail)
                    clear hK K))
            refine Qw_nil ?_
            rintro w8 ⟨⟨_, hb8⟩, rfl⟩
            have B8 := Kept.mk (below_step B7.out hb8)
            go_wp2
            go_ret
            exact ⟨rfl, B8.out⟩
          have hbig' : ¬ (65536 : Int) < (S.size : Int) := by omega
          have hSd : S.data.toList = Ppr.prN l k := by rw [← KS.out]
          have hSl := size_len S
          have hfr := frag_pr H0.out hkl h1 h3 (by rw [← hSd, hSl]; omega)
          rw [← hSd] at hfr
          obtain ⟨hP1, hP2, hP3⟩ := part_lines H0.out hkl
          obtain ⟨m, hm⟩ : ∃ m, (partN l k).length = m := ⟨_, rfl⟩
          have hme := partN_len l k
          have hen := endN_spec l k hkl
          have hfl := frag_len l k hkl
          have CF := Kept.mk (frag_told8 (n := m) hfr (by omega) (by omega))
          have CL : Kept (∀ A1 c1 wx, Ev wx → RdN wx A1 (partN l k) → (A1 = none → c1 = 0) → m ≤ c1 → Calls Tryz.prog 17 #[.slice A1 m c1] wx fun e w' => ∃ A' c', e = .returned (.slice A' m c') ∧ w'.ownsRow wx.heap.size 32 4 (.slice A' m c') m (ndsC (fragN l k)) ∧ Below wx.heap.size wx w') := ⟨fun A1 c1 wx hE hr h1 h2 => by
            have h := lines_any A1 (partN l k) c1 wx hr h1 (by omega) (by omega) hP3 hE
            rw [hP2, hm] at h
            exact h⟩
          have CT : Kept (∀ wx, Below w.heap.size w wx → Calls Tryz.prog 18 #[.slice (some ⟨g, off, none⟩) l.length c, .int .i64 (k : Int)] wx fun e w' => ∃ A1 c1, e = .returned (.slice A1 m c1) ∧ (A1 = none → c1 = 0) ∧ m ≤ c1 ∧ w'.ownsRow wx.heap.size 32 4 (.slice A1 m c1) m (ndsC (partN l k)) ∧ Below wx.heap.size wx w') := ⟨fun wx hb => by
            have h := Part_any _ l c k wx (HN.out.below hb) hl2 hlc HP.out (HR.out.below hb)
            rw [hP1, hm] at h
            refine h.mono ?_
            rintro e w' ⟨v, rfl, ho, hb⟩
            obtain ⟨A1, c1, rfl, hA1⟩ := own_form ho
            obtain ⟨A2, c2, hv2, hc2⟩ := own_slice ho
            cases hv2
            exact ⟨A1, c1, rfl, hA1, hc2, ho, hb⟩⟩
          have CS : Kept (∀ A1 A2 c1 c2 wx, RdN wx A1 (fragN l k) → RdN wx A2 (fragN l k) → Calls Tryz.prog 16 #[.slice A1 m c1, .slice A2 m c2] wx fun e w' => e = .returned (.bool true) ∧ Below wx.heap.size wx w') := ⟨fun A1 A2 c1 c2 wx r1 r2 => by
            have h := same_rd (fragN l k) A1 A2 c1 c2 wx r1 r2 (by omega)
            rw [show (fragN l k).length = m by omega] at h
            exact h⟩
          have hE := eql_fault 0 0
          generalize fragN l k = F at CF CL CS
          generalize partN l k = G at CL CT
          generalize ((kin l k : Nat) : Int) = K at q1 q3 x0
          clear hfr hP1 hP2 hP3 hm hme hen hfl hSd hSl h1 h3 x1 x2 CP
          go_wp2_with (fail)
          refine (CF.out _ (HT.out.below B7.out)).mono ?_; rintro e w8 ⟨hb8, A8, c8, rfl, ho8⟩
          have D8 := (Below.refl w8.heap.size w8).alloc (Nat.le_refl _) (.cells #[.int .i64 0, .int .i64 0] 26)
          have B8 := Kept.mk (below_step (below_step B7.out hb8) D8)
          have V8 := Fv.make w8 0 0
          have p0 := V8.c0
          have p1 := V8.c1
          have O8 := Kept.mk (rdn_of_own (own_below ho8 D8))
          clear hb8 ho8 D8 V8 B7 x0
          go_wp2_with (fail)
          refine (CT.out _ B8.out).mono ?_; rintro e w9 ⟨A9, c9, rfl, hA9, hc9, ho9, hb9⟩
          have B9 := Kept.mk (below_step B8.out hb9)
          have O9 := Kept.mk (O8.out.below hb9)
          have P9 := Kept.mk (rdn_of_own ho9)
          clear hb9 ho9 B8 O8 p0 p1
          go_wp2_with (fail)
          refine (CL.out _ _ _ (HT.out.below B9.out) P9.out hA9 hc9).mono ?_; rintro e w10 ⟨A10, c10, rfl, ho10, hb10⟩
          have B10 := Kept.mk (below_step B9.out hb10)
          have O10 := Kept.mk (O9.out.below hb10)
          have P10 := Kept.mk (rdn_of_own ho10)
          clear hb10 ho10 B9 O9 P9
          go_wp2_with (fail)
          refine (CS.out _ _ _ _ _ O10.out P10.out).mono ?_; rintro e w11 ⟨rfl, hb11⟩
          have B11 := Kept.mk (below_step B10.out hb11)
          clear hb11
          go_wp2_with (fail)
          go_ret
          exact ⟨rfl, B11.out⟩
    · have h0b : (chk l true == 0) = false := by simpa using h0
      generalize chk l true = C at CK h0b h0
      go_wp2_with (fail)
      refine (CK.out _ B2.out).mono ?_; rintro e w4 ⟨rfl, hb4⟩
      have B4 := Kept.mk (below_step B2.out hb4)
      clear hb4
      go_wp2_with (fail)
      go_ret
      exact ⟨rfl, B4.out⟩
end Go.Proofs.YtemfmidhekdekaaGreatDoor.Wps
