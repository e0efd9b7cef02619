/- The walk over the program's token (chapter 22). -/
import Derived.Test.YtfamljigcffngaaGreatDoorLexWalksC
import Derived.Laws.Rows
namespace Go.Proofs.YtfamljigcffngaaGreatDoor.Wlx
open Go Go.RowKit Go.Proofs.YtfamljigcffngaaGreatDoor.Wch

set_option maxRecDepth 100000 in
theorem sign_index (k : Nat) (x : List UInt8) (w : World) (hx : Plx.signsL[k]? = some x) : (Instr.index 84 (.agg signsA) (.int .i64 k)).run Tryz.prog w = .ok (.string ⟨x.toArray⟩) w := by
  have hk : k < 24 := (List.getElem?_eq_some_iff.1 hx).1
  rcases (by omega : k = 0 ∨ k = 1 ∨ k = 2 ∨ k = 3 ∨ k = 4 ∨ k = 5 ∨ k = 6 ∨ k = 7 ∨ k = 8 ∨ k = 9 ∨ k = 10 ∨ k = 11 ∨ k = 12 ∨ k = 13 ∨ k = 14 ∨ k = 15 ∨ k = 16 ∨ k = 17 ∨ k = 18 ∨ k = 19 ∨ k = 20 ∨ k = 21 ∨ k = 22 ∨ k = 23) with rfl | rfl | rfl | rfl | rfl | rfl | rfl | rfl | rfl | rfl | rfl | rfl | rfl | rfl | rfl | rfl | rfl | rfl | rfl | rfl | rfl | rfl | rfl | rfl
  all_goals (cases hx; show _ = _; kernel_rfl)
theorem info_signs : (Tryz.prog.info? 84).map (·.size) = some signsA.size := by kernel_rfl
theorem resV_shape (r : Except Nat (Plx.Tok × Nat)) : ∃ (k : Int) (x : ByteArray) (m n e : Int), resV r = .tuple #[.agg #[.int .u8 k, .string x, .int .i64 m, .int .i64 0], .int .i64 n, .int .i64 e] := by
  cases r with
  | error e => exact ⟨_, _, _, _, _, rfl⟩
  | ok x => exact ⟨_, _, _, _, _, rfl⟩
set_option maxRecDepth 100000 in
set_option maxHeartbeats 2000000 in
theorem token_dig (s : ByteArray) (w : World) (hs : s.size ≤ 100000) (h0 : 0 < s.size) (ht : Env w) (a1 : (48 : Int) ≤ (s[0].toNat : Int)) (a2 : (s[0].toNat : Int) ≤ 57) (R : Value) (hR : resV (Plx.wholeL s.data.toList) = R) :
    Calls Tryz.prog 18 #[.string s] w fun e w' => e = .returned R ∧ Below w.heap.size w w' := by
  have HT := Kept.mk ht
  clear ht
  have cW := fun wx hx => whole_any s wx (by omega) hx
  obtain ⟨k, x, m, n, er, hV⟩ := resV_shape (Plx.wholeL s.data.toList)
  rw [hV] at hR cW
  have HR := Kept.mk hR
  have CW := Kept.mk cW
  clear cW hV hR
  go_enter Tryz.func18, Tryz.ntmps18
  go_wp2_with (fail)
  refine (CW.out _ (HT.out.below ((Below.refl _ _).alloc (Nat.le_refl _) _))).mono ?_; rintro e w2 ⟨rfl, g3⟩
  obtain ⟨hc, hf⟩ := bcell g3
  have hz := g3.size
  go_wp2_with (fail)
  refine bodyPost_ret (v := .tuple #[.agg #[.int .u8 k, .string x, .int .i64 m, .int .i64 0], .int .i64 n, .int .i64 er]) (by simp [results, Tryz.results18, go_sem, hc]) rfl ⟨by rw [HR.out], ?_⟩
  exact set4 (below_tok g3)
set_option maxRecDepth 100000 in
set_option maxHeartbeats 2000000 in
theorem token_q34 (s : ByteArray) (w : World) (hs : s.size ≤ 100000) (h0 : 0 < s.size) (a1 : ¬ (48 : Int) ≤ (s[0].toNat : Int)) (e34 : ((s[0].toNat : Int) == 34) = true) (R : Value) (hR : resV (Plx.quoL s[0] (s.data.toList.drop 1)) = R) :
    Calls Tryz.prog 18 #[.string s] w fun e w' => e = .returned R ∧ Below w.heap.size w w' := by
  have cW := fun wx => quoted_any s wx hs h0
  obtain ⟨k, x, m, n, er, hV⟩ := resV_shape (Plx.quoL s[0] (s.data.toList.drop 1))
  rw [hV] at hR cW
  have HR := Kept.mk hR
  have CW := Kept.mk cW
  clear cW hV hR
  go_enter Tryz.func18, Tryz.ntmps18
  go_wp2_with (fail)
  refine (CW.out _).mono ?_; rintro e w2 ⟨rfl, g3⟩
  obtain ⟨hc, hf⟩ := bcell g3
  have hz := g3.size
  go_wp2_with (fail)
  refine bodyPost_ret (v := .tuple #[.agg #[.int .u8 k, .string x, .int .i64 m, .int .i64 0], .int .i64 n, .int .i64 er]) (by simp [results, Tryz.results18, go_sem, hc]) rfl ⟨by rw [HR.out], ?_⟩
  exact set4 (below_tok g3)
set_option maxRecDepth 100000 in
set_option maxHeartbeats 2000000 in
theorem token_q39 (s : ByteArray) (w : World) (hs : s.size ≤ 100000) (h0 : 0 < s.size) (a1 : ¬ (48 : Int) ≤ (s[0].toNat : Int)) (e34 : ((s[0].toNat : Int) == 34) = false) (e39 : ((s[0].toNat : Int) == 39) = true) (R : Value) (hR : resV (Plx.quoL s[0] (s.data.toList.drop 1)) = R) :
    Calls Tryz.prog 18 #[.string s] w fun e w' => e = .returned R ∧ Below w.heap.size w w' := by
  have cW := fun wx => quoted_any s wx hs h0
  obtain ⟨k, x, m, n, er, hV⟩ := resV_shape (Plx.quoL s[0] (s.data.toList.drop 1))
  rw [hV] at hR cW
  have HR := Kept.mk hR
  have CW := Kept.mk cW
  clear cW hV hR
  go_enter Tryz.func18, Tryz.ntmps18
  go_wp2_with (fail)
  refine (CW.out _).mono ?_; rintro e w2 ⟨rfl, g3⟩
  obtain ⟨hc, hf⟩ := bcell g3
  have hz := g3.size
  go_wp2_with (fail)
  refine bodyPost_ret (v := .tuple #[.agg #[.int .u8 k, .string x, .int .i64 m, .int .i64 0], .int .i64 n, .int .i64 er]) (by simp [results, Tryz.results18, go_sem, hc]) rfl ⟨by rw [HR.out], ?_⟩
  exact set4 (below_tok g3)
set_option maxRecDepth 100000 in
set_option maxHeartbeats 2000000 in
theorem token_var (s : ByteArray) (w : World) (hs : s.size ≤ 100000) (h0 : 0 < s.size) (ht : Env w) (a1 : ¬ (48 : Int) ≤ (s[0].toNat : Int)) (e34 : ((s[0].toNat : Int) == 34) = false) (e39 : ((s[0].toNat : Int) == 39) = false) (e36 : ((s[0].toNat : Int) == 36) = true) (R : Value) (hR : resV (Plx.wordR 1 4 s.data.toList) = R) :
    Calls Tryz.prog 18 #[.string s] w fun e w' => e = .returned R ∧ Below w.heap.size w w' := by
  have HT := Kept.mk ht
  clear ht
  have cN0 : Plx.nameN (s.data.toList.drop 1) = 0 → ∀ wx, Wch.Env wx → Calls Tryz.prog 40 #[.string (s.extract 1 s.size)] wx fun e w' => e = .returned (.string ⟨#[]⟩) ∧ Below wx.heap.size wx w' := fun hn wx hx => name_none (s.extract 1 s.size) wx (by rw [size_from]; omega) hx (by rw [Lib.extract_to_end]; exact hn)
  have cN1 : Plx.nameN (s.data.toList.drop 1) ≠ 0 → ∀ wx, Wch.Env wx → Calls Tryz.prog 40 #[.string (s.extract 1 s.size)] wx fun e w' => ∃ x : ByteArray, e = .returned (.string x) ∧ x.data.toList = (s.data.toList.drop 1).take (Plx.nameN (s.data.toList.drop 1)) ∧ x.size = Plx.nameN (s.data.toList.drop 1) ∧ x.toList.isEmpty = false ∧ Below wx.heap.size wx w' := fun hn wx hx => by
    have h := name_some (s.extract 1 s.size) wx (by rw [size_from]; omega) hx (by rw [Lib.extract_to_end]; exact hn)
    rw [Lib.extract_to_end] at h
    exact h
  unfold Plx.wordR at hR
  have hlen := Plx.nameN_le (s.data.toList.drop 1)
  rw [List.length_drop, size_len] at hlen
  generalize (s.data.toList.drop 1).take (Plx.nameN (s.data.toList.drop 1)) = X at cN1 hR
  generalize Plx.nameN (s.data.toList.drop 1) = n at cN0 cN1 hR hlen
  have HR' := Kept.mk hR
  clear hR
  go_enter Tryz.func18, Tryz.ntmps18
  by_cases hn : n = 0
  · subst hn
    have CN := Kept.mk (cN0 rfl)
    clear cN0 cN1 hlen
    have HR2 : Kept (R = resV (.error 220)) := ⟨by rw [← HR'.out, if_pos (.inr ⟨rfl, by decide⟩)]⟩
    go_wp2_with (fail)
    refine (CN.out _ (HT.out.ch.below ((Below.refl _ _).alloc (Nat.le_refl _) _))).mono ?_; rintro e w2 ⟨rfl, g3⟩
    obtain ⟨hc, hf⟩ := bcell g3
    have hz := g3.size
    go_wp2_with (fail)
    refine bodyPost_ret (v := resV (.error 220)) (by simp [results, Tryz.results18, go_sem, hc, resV]) rfl ⟨by rw [HR2.out], ?_⟩
    exact set4 (below_tok g3)
  · have CN := Kept.mk (cN1 hn)
    have HN := Kept.mk hn
    clear cN0 cN1 hn
    by_cases hbig : 100 < n
    · have HR2 : Kept (R = resV (.error 220)) := ⟨by rw [← HR'.out, if_pos (.inl hbig)]⟩
      go_wp2_with (fail)
      refine (CN.out _ (HT.out.ch.below ((Below.refl _ _).alloc (Nat.le_refl _) _))).mono ?_; rintro e w2 ⟨x, rfl, hx1, hx2, hx3, g3⟩
      have hx4 : (100 : Int) < (x.size : Int) := by omega
      obtain ⟨hc, hf⟩ := bcell g3
      have hz := g3.size
      clear hx1 hx2
      go_wp2_with (fail)
      refine bodyPost_ret (v := resV (.error 220)) (by simp [results, Tryz.results18, go_sem, hc, resV]) rfl ⟨by rw [HR2.out], ?_⟩
      exact set4 (below_tok g3)
    · have HR2 : Kept (R = resV (.ok ((4, X, 0), 1 + n))) := ⟨by rw [← HR'.out, if_neg (by have := HN.out; omega), if_pos HN.out]⟩
      go_wp2_with (fail)
      refine (CN.out _ (HT.out.ch.below ((Below.refl _ _).alloc (Nat.le_refl _) _))).mono ?_; rintro e w2 ⟨x, rfl, hx1, hx2, hx3, g3⟩
      have hx4 : ¬ (100 : Int) < (x.size : Int) := by omega
      have hx5 : (x.size : Int) ≤ 100 := by omega
      have hxm : x = ⟨X.toArray⟩ := by rw [← hx1]
      have HXM := Kept.mk hxm
      have HX2 := Kept.mk hx2
      obtain ⟨hc, hf⟩ := bcell g3
      have hz := g3.size
      clear hx1 hx2 hxm
      go_wp2_with (fail)
      refine bodyPost_ret (v := resV (.ok ((4, X, 0), 1 + n))) (by have h2 := HX2.out; simp [results, Tryz.results18, go_sem, hc, resV, tokVal, ← HXM.out, h2]) rfl ⟨by rw [HR2.out], ?_⟩
      exact set4 (below_tok g3)
set_option maxRecDepth 100000 in
set_option maxHeartbeats 2000000 in
theorem token_low (s : ByteArray) (w : World) (hs : s.size ≤ 100000) (h0 : 0 < s.size) (ht : Env w) (a1 : ¬ (48 : Int) ≤ (s[0].toNat : Int)) (e34 : ((s[0].toNat : Int) == 34) = false) (e39 : ((s[0].toNat : Int) == 39) = false) (e36 : ((s[0].toNat : Int) == 36) = false) (R : Value) (hR : resV (Plx.wordR 0 1 s.data.toList) = R) :
    Calls Tryz.prog 18 #[.string s] w fun e w' => e = .returned R ∧ Below w.heap.size w w' := by
  have HT := Kept.mk ht
  clear ht
  have cN0 : Plx.nameN (s.data.toList.drop 0) = 0 → ∀ wx, Wch.Env wx → Calls Tryz.prog 40 #[.string s] wx fun e w' => e = .returned (.string ⟨#[]⟩) ∧ Below wx.heap.size wx w' := fun hn wx hx => name_none s wx (by omega) hx hn
  have cN1 : Plx.nameN (s.data.toList.drop 0) ≠ 0 → ∀ wx, Wch.Env wx → Calls Tryz.prog 40 #[.string s] wx fun e w' => ∃ x : ByteArray, e = .returned (.string x) ∧ x.data.toList = (s.data.toList.drop 0).take (Plx.nameN (s.data.toList.drop 0)) ∧ x.size = Plx.nameN (s.data.toList.drop 0) ∧ x.toList.isEmpty = false ∧ Below wx.heap.size wx w' := fun hn wx hx => by
    exact name_some s wx (by omega) hx hn
  unfold Plx.wordR at hR
  have hlen := Plx.nameN_le (s.data.toList.drop 0)
  rw [List.length_drop, size_len] at hlen
  generalize (s.data.toList.drop 0).take (Plx.nameN (s.data.toList.drop 0)) = X at cN1 hR
  generalize Plx.nameN (s.data.toList.drop 0) = n at cN0 cN1 hR hlen
  have HR' := Kept.mk hR
  clear hR
  go_enter Tryz.func18, Tryz.ntmps18
  by_cases hn : n = 0
  · subst hn
    have CN := Kept.mk (cN0 rfl)
    clear cN0 cN1 hlen
    have HR2 : Kept (R = resV (Plx.signR s.data.toList)) := ⟨by rw [← HR'.out, if_neg (by omega), if_neg (by omega)]⟩
    go_wp2_with (fail)
    refine (CN.out _ (HT.out.ch.below ((Below.refl _ _).alloc (Nat.le_refl _) _))).mono ?_; rintro e w2 ⟨rfl, g3⟩
    obtain ⟨ts, fs, hsg⟩ := (HT.out.below (below_tok g3)).sgn
    have HSG := Kept.mk hsg
    clear hsg
    go_upto_region 14 with (fail)
    go_wp2_with (refine wpList_load_row rfl _ _ rfl 0 rfl ts signsA fs _ HSG.out Tryz.underlying84 rfl info_signs ?_)
    obtain ⟨hc, hf⟩ := bcell g3
    have hz := g3.size
    have HG3 := Kept.mk g3
    clear g3 HSG
    unfold Plx.signR at HR2
    generalize hS : Plx.signAt s.data.toList = S at HR2
    have HS := Kept.mk hS
    clear hS
    go_loop [66] (fun i => ∃ k : Nat, k ≤ 24 ∧ i = .int .i64 k ∧ Hid ((Plx.signsL.drop k).find? (fun x => Lib.hasPrefix s.data.toList x) = S)) (fun i => 24 - (intOf i).toNat)
    case atStart => exact ⟨0, by omega, rfl, HS.out⟩
    case round =>
      obtain ⟨k, hk, rfl, H⟩ := hrel
      by_cases hlt : k < 24
      · obtain ⟨x, hx⟩ : ∃ x, Plx.signsL[k]? = some x := ⟨Plx.signsL[k]'hlt, List.getElem?_eq_getElem hlt⟩
        have h := H.out
        rw [List.drop_eq_getElem_cons (show k < Plx.signsL.length from hlt), List.find?_cons, (List.getElem?_eq_some_iff.1 hx).2] at h
        have hix := fun w => sign_index k x w hx
        have cP : ∀ wx, Calls Tryz.prog 16 #[.string s, .string ⟨x.toArray⟩] wx fun e w' => e = .returned (.bool (Lib.hasPrefix s.data.toList x)) ∧ wx = w' := fun wx => (Any.strings_HasPrefix Tryz.lays99 s ⟨x.toArray⟩ wx).mono fun _ _ ⟨he, hw⟩ => ⟨he, hw.symm⟩
        generalize Lib.hasPrefix s.data.toList x = P at h cP
        obtain ⟨y, hy⟩ : ∃ y : ByteArray, y = ⟨x.toArray⟩ := ⟨_, rfl⟩
        rw [← hy] at hix cP
        have hys : y.size = x.length := by rw [hy]; simp [ByteArray.size]
        have HY := Kept.mk hy
        have HYS := Kept.mk hys
        have CP := Kept.mk cP
        have H1 := Lib.hid h
        have i0 : (0 : Int) ≤ (k : Int) := by omega
        clear hx h H cP hy hys
        cases P
        · go_wp2_with (fail)
          refine (CP.out _).mono ?_; rintro e w' ⟨rfl, rfl⟩
          go_wp2_with (fail)
          go_round
          case rel => exact ⟨k + 1, by omega, by go_num, H1.out⟩
          case measure => simp [intOf]; omega
        · go_wp2_with (fail)
          refine (CP.out _).mono ?_; rintro e w' ⟨rfl, rfl⟩
          go_wp2_with (fail)
          have HR3 : Kept (R = resV (.ok ((5, x, 0), x.length))) := ⟨by rw [HR2.out, ← H1.out]⟩
          refine bodyPost_ret (v := resV (.ok ((5, x, 0), x.length))) (by have h2 := HYS.out; simp [results, Tryz.results18, go_sem, hc, resV, tokVal, ← HY.out, h2]) rfl ⟨by rw [HR3.out], ?_⟩
          exact set4 (below_tok HG3.out)
      · obtain rfl : k = 24 := by omega
        have H1 : Hid (S = none) := H.out.symm
        clear H
        go_wp2_with (fail)
        have HR3 : Kept (R = resV (.error 220)) := ⟨by rw [HR2.out, H1.out]⟩
        refine bodyPost_ret (v := resV (.error 220)) (by simp [results, Tryz.results18, go_sem, hc, resV]) rfl ⟨by rw [HR3.out], ?_⟩
        exact set4 (below_tok HG3.out)
  · have CN := Kept.mk (cN1 hn)
    have HN := Kept.mk hn
    clear cN0 cN1 hn
    by_cases hbig : 100 < n
    · have HR2 : Kept (R = resV (.error 220)) := ⟨by rw [← HR'.out, if_pos (.inl hbig)]⟩
      go_wp2_with (fail)
      refine (CN.out _ (HT.out.ch.below ((Below.refl _ _).alloc (Nat.le_refl _) _))).mono ?_; rintro e w2 ⟨x, rfl, hx1, hx2, hx3, g3⟩
      have hx4 : (100 : Int) < (x.size : Int) := by omega
      obtain ⟨hc, hf⟩ := bcell g3
      have hz := g3.size
      clear hx1 hx2
      go_wp2_with (fail)
      refine bodyPost_ret (v := resV (.error 220)) (by simp [results, Tryz.results18, go_sem, hc, resV]) rfl ⟨by rw [HR2.out], ?_⟩
      exact set4 (below_tok g3)
    · have HR2 : Kept (R = resV (.ok ((1, X, 0), 0 + n))) := ⟨by rw [← HR'.out, if_neg (by have := HN.out; omega), if_pos HN.out]⟩
      go_wp2_with (fail)
      refine (CN.out _ (HT.out.ch.below ((Below.refl _ _).alloc (Nat.le_refl _) _))).mono ?_; rintro e w2 ⟨x, rfl, hx1, hx2, hx3, g3⟩
      have hx4 : ¬ (100 : Int) < (x.size : Int) := by omega
      have hx5 : (x.size : Int) ≤ 100 := by omega
      have hxm : x = ⟨X.toArray⟩ := by rw [← hx1]
      have HXM := Kept.mk hxm
      have HX2 := Kept.mk hx2
      obtain ⟨hc, hf⟩ := bcell g3
      have hz := g3.size
      clear hx1 hx2 hxm
      go_wp2_with (fail)
      refine bodyPost_ret (v := resV (.ok ((1, X, 0), 0 + n))) (by have h2 := HX2.out; simp [results, Tryz.results18, go_sem, hc, resV, tokVal, ← HXM.out, h2]) rfl ⟨by rw [HR2.out], ?_⟩
      exact set4 (below_tok g3)
set_option maxRecDepth 100000 in
set_option maxHeartbeats 2000000 in
theorem token_high (s : ByteArray) (w : World) (hs : s.size ≤ 100000) (h0 : 0 < s.size) (ht : Env w) (a1 : (48 : Int) ≤ (s[0].toNat : Int)) (a2 : ¬ (s[0].toNat : Int) ≤ 57) (e34 : ((s[0].toNat : Int) == 34) = false) (e39 : ((s[0].toNat : Int) == 39) = false) (e36 : ((s[0].toNat : Int) == 36) = false) (R : Value) (hR : resV (Plx.wordR 0 1 s.data.toList) = R) :
    Calls Tryz.prog 18 #[.string s] w fun e w' => e = .returned R ∧ Below w.heap.size w w' := by
  have HT := Kept.mk ht
  clear ht
  have cN0 : Plx.nameN (s.data.toList.drop 0) = 0 → ∀ wx, Wch.Env wx → Calls Tryz.prog 40 #[.string s] wx fun e w' => e = .returned (.string ⟨#[]⟩) ∧ Below wx.heap.size wx w' := fun hn wx hx => name_none s wx (by omega) hx hn
  have cN1 : Plx.nameN (s.data.toList.drop 0) ≠ 0 → ∀ wx, Wch.Env wx → Calls Tryz.prog 40 #[.string s] wx fun e w' => ∃ x : ByteArray, e = .returned (.string x) ∧ x.data.toList = (s.data.toList.drop 0).take (Plx.nameN (s.data.toList.drop 0)) ∧ x.size = Plx.nameN (s.data.toList.drop 0) ∧ x.toList.isEmpty = false ∧ Below wx.heap.size wx w' := fun hn wx hx => by
    exact name_some s wx (by omega) hx hn
  unfold Plx.wordR at hR
  have hlen := Plx.nameN_le (s.data.toList.drop 0)
  rw [List.length_drop, size_len] at hlen
  generalize (s.data.toList.drop 0).take (Plx.nameN (s.data.toList.drop 0)) = X at cN1 hR
  generalize Plx.nameN (s.data.toList.drop 0) = n at cN0 cN1 hR hlen
  have HR' := Kept.mk hR
  clear hR
  go_enter Tryz.func18, Tryz.ntmps18
  by_cases hn : n = 0
  · subst hn
    have CN := Kept.mk (cN0 rfl)
    clear cN0 cN1 hlen
    have HR2 : Kept (R = resV (Plx.signR s.data.toList)) := ⟨by rw [← HR'.out, if_neg (by omega), if_neg (by omega)]⟩
    go_wp2_with (fail)
    refine (CN.out _ (HT.out.ch.below ((Below.refl _ _).alloc (Nat.le_refl _) _))).mono ?_; rintro e w2 ⟨rfl, g3⟩
    obtain ⟨ts, fs, hsg⟩ := (HT.out.below (below_tok g3)).sgn
    have HSG := Kept.mk hsg
    clear hsg
    go_upto_region 14 with (fail)
    go_wp2_with (refine wpList_load_row rfl _ _ rfl 0 rfl ts signsA fs _ HSG.out Tryz.underlying84 rfl info_signs ?_)
    obtain ⟨hc, hf⟩ := bcell g3
    have hz := g3.size
    have HG3 := Kept.mk g3
    clear g3 HSG
    unfold Plx.signR at HR2
    generalize hS : Plx.signAt s.data.toList = S at HR2
    have HS := Kept.mk hS
    clear hS
    go_loop [66] (fun i => ∃ k : Nat, k ≤ 24 ∧ i = .int .i64 k ∧ Hid ((Plx.signsL.drop k).find? (fun x => Lib.hasPrefix s.data.toList x) = S)) (fun i => 24 - (intOf i).toNat)
    case atStart => exact ⟨0, by omega, rfl, HS.out⟩
    case round =>
      obtain ⟨k, hk, rfl, H⟩ := hrel
      by_cases hlt : k < 24
      · obtain ⟨x, hx⟩ : ∃ x, Plx.signsL[k]? = some x := ⟨Plx.signsL[k]'hlt, List.getElem?_eq_getElem hlt⟩
        have h := H.out
        rw [List.drop_eq_getElem_cons (show k < Plx.signsL.length from hlt), List.find?_cons, (List.getElem?_eq_some_iff.1 hx).2] at h
        have hix := fun w => sign_index k x w hx
        have cP : ∀ wx, Calls Tryz.prog 16 #[.string s, .string ⟨x.toArray⟩] wx fun e w' => e = .returned (.bool (Lib.hasPrefix s.data.toList x)) ∧ wx = w' := fun wx => (Any.strings_HasPrefix Tryz.lays99 s ⟨x.toArray⟩ wx).mono fun _ _ ⟨he, hw⟩ => ⟨he, hw.symm⟩
        generalize Lib.hasPrefix s.data.toList x = P at h cP
        obtain ⟨y, hy⟩ : ∃ y : ByteArray, y = ⟨x.toArray⟩ := ⟨_, rfl⟩
        rw [← hy] at hix cP
        have hys : y.size = x.length := by rw [hy]; simp [ByteArray.size]
        have HY := Kept.mk hy
        have HYS := Kept.mk hys
        have CP := Kept.mk cP
        have H1 := Lib.hid h
        have i0 : (0 : Int) ≤ (k : Int) := by omega
        clear hx h H cP hy hys
        cases P
        · go_wp2_with (fail)
          refine (CP.out _).mono ?_; rintro e w' ⟨rfl, rfl⟩
          go_wp2_with (fail)
          go_round
          case rel => exact ⟨k + 1, by omega, by go_num, H1.out⟩
          case measure => simp [intOf]; omega
        · go_wp2_with (fail)
          refine (CP.out _).mono ?_; rintro e w' ⟨rfl, rfl⟩
          go_wp2_with (fail)
          have HR3 : Kept (R = resV (.ok ((5, x, 0), x.length))) := ⟨by rw [HR2.out, ← H1.out]⟩
          refine bodyPost_ret (v := resV (.ok ((5, x, 0), x.length))) (by have h2 := HYS.out; simp [results, Tryz.results18, go_sem, hc, resV, tokVal, ← HY.out, h2]) rfl ⟨by rw [HR3.out], ?_⟩
          exact set4 (below_tok HG3.out)
      · obtain rfl : k = 24 := by omega
        have H1 : Hid (S = none) := H.out.symm
        clear H
        go_wp2_with (fail)
        have HR3 : Kept (R = resV (.error 220)) := ⟨by rw [HR2.out, H1.out]⟩
        refine bodyPost_ret (v := resV (.error 220)) (by simp [results, Tryz.results18, go_sem, hc, resV]) rfl ⟨by rw [HR3.out], ?_⟩
        exact set4 (below_tok HG3.out)
  · have CN := Kept.mk (cN1 hn)
    have HN := Kept.mk hn
    clear cN0 cN1 hn
    by_cases hbig : 100 < n
    · have HR2 : Kept (R = resV (.error 220)) := ⟨by rw [← HR'.out, if_pos (.inl hbig)]⟩
      go_wp2_with (fail)
      refine (CN.out _ (HT.out.ch.below ((Below.refl _ _).alloc (Nat.le_refl _) _))).mono ?_; rintro e w2 ⟨x, rfl, hx1, hx2, hx3, g3⟩
      have hx4 : (100 : Int) < (x.size : Int) := by omega
      obtain ⟨hc, hf⟩ := bcell g3
      have hz := g3.size
      clear hx1 hx2
      go_wp2_with (fail)
      refine bodyPost_ret (v := resV (.error 220)) (by simp [results, Tryz.results18, go_sem, hc, resV]) rfl ⟨by rw [HR2.out], ?_⟩
      exact set4 (below_tok g3)
    · have HR2 : Kept (R = resV (.ok ((1, X, 0), 0 + n))) := ⟨by rw [← HR'.out, if_neg (by have := HN.out; omega), if_pos HN.out]⟩
      go_wp2_with (fail)
      refine (CN.out _ (HT.out.ch.below ((Below.refl _ _).alloc (Nat.le_refl _) _))).mono ?_; rintro e w2 ⟨x, rfl, hx1, hx2, hx3, g3⟩
      have hx4 : ¬ (100 : Int) < (x.size : Int) := by omega
      have hx5 : (x.size : Int) ≤ 100 := by omega
      have hxm : x = ⟨X.toArray⟩ := by rw [← hx1]
      have HXM := Kept.mk hxm
      have HX2 := Kept.mk hx2
      obtain ⟨hc, hf⟩ := bcell g3
      have hz := g3.size
      clear hx1 hx2 hxm
      go_wp2_with (fail)
      refine bodyPost_ret (v := resV (.ok ((1, X, 0), 0 + n))) (by have h2 := HX2.out; simp [results, Tryz.results18, go_sem, hc, resV, tokVal, ← HXM.out, h2]) rfl ⟨by rw [HR2.out], ?_⟩
      exact set4 (below_tok g3)
theorem token_any (s : ByteArray) (w : World) (hs : s.size ≤ 100000) (h0 : 0 < s.size) (ht : Env w) :
    Calls Tryz.prog 18 #[.string s] w fun e w' => e = .returned (resV (Plx.tokL s.data.toList)) ∧ Below w.heap.size w w' := by
  obtain ⟨r, hr⟩ : ∃ r, s.data.toList = s[0] :: r := ⟨_, by have := drop_at s 0 h0; rwa [List.drop_zero] at this⟩
  have hr1 : s.data.toList.drop 1 = r := by rw [hr]; rfl
  have ne : ∀ (n : Nat) (b : UInt8), b.toNat = n → s[0] ≠ b → ((s[0].toNat : Int) == (n : Int)) = false := fun n b hb h => by
    rw [beq_eq_false_iff_ne]
    intro e
    exact h (UInt8.toNat_inj.1 (by omega))
  by_cases hd : Plx.isDig s[0] = true
  · have hd' : 48 ≤ s[0].toNat ∧ s[0].toNat ≤ 57 := by simpa [Plx.isDig] using hd
    exact token_dig s w hs h0 ht (by omega) (by omega) _ (by rw [hr, Plx.tokL_cons, if_pos hd])
  have hd' : ¬ (48 ≤ s[0].toNat ∧ s[0].toNat ≤ 57) := by simpa [Plx.isDig] using hd
  by_cases h34 : s[0] = 34
  · exact token_q34 s w hs h0 (by rw [h34]; decide) (by rw [h34]; rfl) _ (by rw [hr1, hr, Plx.tokL_cons, if_neg hd, if_pos (.inl h34)])
  by_cases h39 : s[0] = 39
  · exact token_q39 s w hs h0 (by rw [h39]; decide) (ne 34 34 rfl h34) (by rw [h39]; rfl) _ (by rw [hr1, hr, Plx.tokL_cons, if_neg hd, if_pos (.inr h39)])
  have hq : ¬ (s[0] = 34 ∨ s[0] = 39) := by rintro (h | h); exact h34 h; exact h39 h
  by_cases h36 : s[0] = 36
  · refine token_var s w hs h0 ht (by rw [h36]; decide) (ne 34 34 rfl h34) (ne 39 39 rfl h39) (by rw [h36]; rfl) _ ?_
    rw [hr, Plx.tokL_cons, if_neg hd, if_neg hq, Plx.wordL, Plx.aheadN, Plx.kindN, if_pos h36, if_pos h36]
  · have hR : resV (Plx.wordR 0 1 s.data.toList) = resV (Plx.tokL s.data.toList) := by
      rw [hr, Plx.tokL_cons, if_neg hd, if_neg hq, Plx.wordL, Plx.aheadN, Plx.kindN, if_neg h36, if_neg h36]
    by_cases h48 : 48 ≤ s[0].toNat
    · exact token_high s w hs h0 ht (by omega) (by omega) (ne 34 34 rfl h34) (ne 39 39 rfl h39) (ne 36 36 rfl h36) _ hR
    · exact token_low s w hs h0 ht (by omega) (ne 34 34 rfl h34) (ne 39 39 rfl h39) (ne 36 36 rfl h36) _ hR
end Go.Proofs.YtfamljigcffngaaGreatDoor.Wlx
