/- The walk over the document's token (chapter 22). -/
import Derived.Test.YtfamljigcffngaaGreatDoorLexScanC
import Derived.BigQuiet
import Derived.Deep.QuietTactic
namespace Go.Proofs.YtfamljigcffngaaGreatDoor.Wlx
open Go Go.RowKit Go.Proofs.YtfamljigcffngaaGreatDoor.Wch

theorem refSigns_any (w : World) : Calls Tryz.prog 105 #[] w fun e w' => e = .returned (.slice (some ⟨w.heap.size, 0, none⟩) 24 24) ∧ w' = w.alloc (.cells signsA 9) := by
  go_enter Tryz.func105, Tryz.ntmps105
  go_wp2
  go_ret
  exact ⟨rfl, rfl⟩
theorem signsA_at (j : Nat) (x : List UInt8) (h : Plx.signsL[j]? = some x) : signsA[j]? = some (.string ⟨x.toArray⟩) := by simp [signsA, h]
/-- what token hands back -/
def TokR (at' : Nat) (r : Except Nat (Plx.Tok × Nat)) (e : Ending) : Prop := match r with
  | .error er => ∃ (k : Int) (x : ByteArray) (n m : Int), e = .returned (.tuple #[.agg #[.int .u8 k, .string x, .int .i64 n, .int .i64 0], .int .i64 m, .int .i64 er])
  | .ok y => e = .returned (.tuple #[.agg #[.int .u8 y.1.1, .string ⟨y.1.2.1.toArray⟩, .int .i64 y.1.2.2, .int .i64 0], .int .i64 ((at' + y.2 : Nat) : Int), .int .i64 0])
theorem TokR.err {at' er : Nat} {k : Int} {x : ByteArray} {n m : Int} : TokR at' (.error er) (.returned (.tuple #[.agg #[.int .u8 k, .string x, .int .i64 n, .int .i64 0], .int .i64 m, .int .i64 er])) := ⟨k, x, n, m, rfl⟩
theorem TokR.fine {at' k n : Nat} {l : List UInt8} {v a : Int} {y : ByteArray} (ha : a = ((at' + n : Nat) : Int)) (hy : y = ⟨l.toArray⟩) : TokR at' (.ok ((k, l, v), n)) (.returned (.tuple #[.agg #[.int .u8 k, .string y, .int .i64 v, .int .i64 0], .int .i64 a, .int .i64 0])) := by
  subst ha hy
  rfl
theorem whole_cases (l : List UInt8) (at' : Nat) (h : Plx.digN l ≠ 0) : (∃ (m er : Nat), (er = 220 ∨ er = 251) ∧ wholeR l at' = (0, (m : Int), (er : Int)) ∧ Plx.wholeL l = .error er) ∨ (wholeR l at' = ((Plx.numN l : Int), ((at' + Plx.digN l : Nat) : Int), 0) ∧ Plx.wholeL l = .ok ((2, [], (Plx.numN l : Int)), Plx.digN l)) := by
  rw [Plx.wholeL_V l h]
  unfold wholeR Plx.wholeV overB
  by_cases h1 : Plx.nameN (l.drop (Plx.digN l)) ≠ 0
  · rw [if_pos h1, if_pos h1]
    exact .inl ⟨_, 220, .inl rfl, rfl, rfl⟩
  · rw [if_neg h1, if_neg h1]
    by_cases h2 : 9223372036854775807 < Plx.numN l
    · rw [if_pos h2, if_pos (show decide (9223372036854775807 < Pdg.dv 0 (l.take (Plx.digN l))) = true from decide_eq_true h2)]
      exact .inl ⟨_, 251, .inr rfl, rfl, rfl⟩
    · have h3 : ¬ decide (9223372036854775807 < Pdg.dv 0 (l.take (Plx.digN l))) = true := by rw [decide_eq_true_eq]; exact h2
      rw [if_neg h2, if_neg h3]
      exact .inr ⟨rfl, rfl⟩
theorem extract_data' (s : ByteArray) (a b : Nat) : s.extract a b = ⟨((s.data.toList.drop a).take (b - a)).toArray⟩ := by
  have h := Lib.extract_data s a b
  rw [← h]
set_option maxRecDepth 100000 in
set_option maxHeartbeats 2000000 in
theorem rtok_dig (s : ByteArray) (at' : Nat) (w : World) (hs : s.size ≤ 65536) (hat : at' < s.size) (ht : Pch.textsL (s.data.toList.drop at') = true) (a1 : (48 : Int) ≤ (s[at'].toNat : Int)) (a2 : (s[at'].toNat : Int) ≤ 57) (hd : Plx.digN (s.data.toList.drop at') ≠ 0) :
    Calls Tryz.prog 63 #[.string s, .int .i64 at'] w fun e w' => TokR at' (Plx.wholeL (s.data.toList.drop at')) e ∧ Below w.heap.size w w' := by
  have i0 : (0 : Int) ≤ (at' : Int) := by omega
  have i1 : (at' : Int) < (s.size : Int) := by omega
  have cW := fun wx => refWhole_any s at' wx (by omega) (by omega) ht
  rcases whole_cases (s.data.toList.drop at') at' hd with ⟨m, er, _, hr, hv⟩ | ⟨hr, hv⟩
  all_goals
    rw [hr] at cW
    have CW := Kept.mk cW
    have HV := Kept.mk hv
    clear cW hr hv ht
  · go_enter Tryz.func63, Tryz.ntmps63
    go_wp2_with (fail)
    refine (CW.out _).mono ?_; rintro e w' ⟨rfl, rfl⟩
    go_wp2_with (fail)
    refine bodyPost_ret (v := .tuple #[.agg #[.int .u8 2, .string ⟨#[]⟩, .int .i64 0, .int .i64 0], .int .i64 m, .int .i64 er]) (by simp [results, Tryz.results63, go_sem]) rfl ⟨?_, (Below.refl _ _).alloc (Nat.le_refl _) _⟩
    rw [HV.out]; exact TokR.err
  · obtain ⟨N, hN⟩ : ∃ N, Plx.numN (s.data.toList.drop at') = N := ⟨_, rfl⟩
    obtain ⟨d, hdd⟩ : ∃ d, at' + Plx.digN (s.data.toList.drop at') = d := ⟨_, rfl⟩
    rw [hN, hdd] at CW
    have HN := Kept.mk hN
    have HDD := Kept.mk hdd
    clear hN hdd hd
    go_enter Tryz.func63, Tryz.ntmps63
    go_wp2_with (fail)
    refine (CW.out _).mono ?_; rintro e w' ⟨rfl, rfl⟩
    go_wp2_with (fail)
    refine bodyPost_ret (v := .tuple #[.agg #[.int .u8 2, .string ⟨#[]⟩, .int .i64 N, .int .i64 0], .int .i64 d, .int .i64 0]) (by simp [results, Tryz.results63, go_sem]) rfl ⟨?_, (Below.refl _ _).alloc (Nat.le_refl _) _⟩
    rw [HV.out, HN.out]; exact TokR.fine (by rw [HDD.out]) rfl
set_option maxRecDepth 100000 in
set_option maxHeartbeats 2000000 in
theorem rtok_q0 (s : ByteArray) (at' : Nat) (w : World) (hs : s.size ≤ 65536) (hat : at' < s.size) (a1 : ¬ (48 : Int) ≤ (s[at'].toNat : Int)) (e34 : ((s[at'].toNat : Int) == 34) = true) :
    Calls Tryz.prog 63 #[.string s, .int .i64 at'] w fun e w' => TokR at' (Plx.quoL s[at'] (s.data.toList.drop (at' + 1))) e ∧ Below w.heap.size w w' := by
  have i0 : (0 : Int) ≤ (at' : Int) := by omega
  have i1 : (at' : Int) < (s.size : Int) := by omega
  have cQ := fun wx => refQuoted_any s at' wx (by omega) hat
  unfold quoS at cQ
  unfold Plx.quoL
  cases hq : Plx.quo s[at'] (s.data.toList.drop (at' + 1)) with
  | none =>
    rw [hq] at cQ
    have CQ := Kept.mk cQ
    clear cQ hq
    go_enter Tryz.func63, Tryz.ntmps63
    go_wp2_with (fail)
    refine (CQ.out _).mono ?_; rintro e w2 ⟨rfl, g3⟩
    obtain ⟨hc, hf⟩ := bcell g3
    have hz := g3.size
    go_wp2_with (fail)
    refine bodyPost_ret (v := .tuple #[.agg #[.int .u8 0, .string ⟨#[]⟩, .int .i64 0, .int .i64 0], .int .i64 0, .int .i64 (220 : Nat)]) (by simp [results, Tryz.results63, go_sem, hc]) rfl ⟨?_, set4 (below_tok g3)⟩
    exact TokR.err
  | some x =>
    rw [hq] at cQ
    simp only [List.nil_append] at cQ
    obtain ⟨y, hy⟩ : ∃ y : ByteArray, y = ⟨x.1.toArray⟩ := ⟨_, rfl⟩
    obtain ⟨d, hd⟩ : ∃ d, at' + 1 + x.2 = d := ⟨_, rfl⟩
    rw [← hy, hd] at cQ
    have CQ := Kept.mk cQ
    have HY := Kept.mk hy
    have HD := Kept.mk hd
    have d0 : (0 : Int) ≤ (d : Int) := by omega
    clear cQ hq hy hd
    go_enter Tryz.func63, Tryz.ntmps63
    go_wp2_with (fail)
    refine (CQ.out _).mono ?_; rintro e w2 ⟨rfl, g3⟩
    obtain ⟨hc, hf⟩ := bcell g3
    have hz := g3.size
    go_wp2_with (fail)
    refine bodyPost_ret (v := .tuple #[.agg #[.int .u8 3, .string y, .int .i64 0, .int .i64 0], .int .i64 d, .int .i64 0]) (by simp [results, Tryz.results63, go_sem, hc]) rfl ⟨?_, set4 (below_tok g3)⟩
    exact TokR.fine (by rw [← HD.out]; omega) HY.out
set_option maxRecDepth 100000 in
set_option maxHeartbeats 2000000 in
theorem rtok_q1 (s : ByteArray) (at' : Nat) (w : World) (hs : s.size ≤ 65536) (hat : at' < s.size) (a1 : ¬ (48 : Int) ≤ (s[at'].toNat : Int)) (e34 : ((s[at'].toNat : Int) == 34) = false) (e39 : ((s[at'].toNat : Int) == 39) = true) :
    Calls Tryz.prog 63 #[.string s, .int .i64 at'] w fun e w' => TokR at' (Plx.quoL s[at'] (s.data.toList.drop (at' + 1))) e ∧ Below w.heap.size w w' := by
  have i0 : (0 : Int) ≤ (at' : Int) := by omega
  have i1 : (at' : Int) < (s.size : Int) := by omega
  have cQ := fun wx => refQuoted_any s at' wx (by omega) hat
  unfold quoS at cQ
  unfold Plx.quoL
  cases hq : Plx.quo s[at'] (s.data.toList.drop (at' + 1)) with
  | none =>
    rw [hq] at cQ
    have CQ := Kept.mk cQ
    clear cQ hq
    go_enter Tryz.func63, Tryz.ntmps63
    go_wp2_with (fail)
    refine (CQ.out _).mono ?_; rintro e w2 ⟨rfl, g3⟩
    obtain ⟨hc, hf⟩ := bcell g3
    have hz := g3.size
    go_wp2_with (fail)
    refine bodyPost_ret (v := .tuple #[.agg #[.int .u8 0, .string ⟨#[]⟩, .int .i64 0, .int .i64 0], .int .i64 0, .int .i64 (220 : Nat)]) (by simp [results, Tryz.results63, go_sem, hc]) rfl ⟨?_, set4 (below_tok g3)⟩
    exact TokR.err
  | some x =>
    rw [hq] at cQ
    simp only [List.nil_append] at cQ
    obtain ⟨y, hy⟩ : ∃ y : ByteArray, y = ⟨x.1.toArray⟩ := ⟨_, rfl⟩
    obtain ⟨d, hd⟩ : ∃ d, at' + 1 + x.2 = d := ⟨_, rfl⟩
    rw [← hy, hd] at cQ
    have CQ := Kept.mk cQ
    have HY := Kept.mk hy
    have HD := Kept.mk hd
    have d0 : (0 : Int) ≤ (d : Int) := by omega
    clear cQ hq hy hd
    go_enter Tryz.func63, Tryz.ntmps63
    go_wp2_with (fail)
    refine (CQ.out _).mono ?_; rintro e w2 ⟨rfl, g3⟩
    obtain ⟨hc, hf⟩ := bcell g3
    have hz := g3.size
    go_wp2_with (fail)
    refine bodyPost_ret (v := .tuple #[.agg #[.int .u8 3, .string y, .int .i64 0, .int .i64 0], .int .i64 d, .int .i64 0]) (by simp [results, Tryz.results63, go_sem, hc]) rfl ⟨?_, set4 (below_tok g3)⟩
    exact TokR.fine (by rw [← HD.out]; omega) HY.out
theorem has_cut (s : ByteArray) (k : Nat) (x : List UInt8) (h0 : 0 < x.length) : Lib.hasPrefix (s.data.toList.drop k) x = (decide (k + x.length ≤ s.size) && ((s.extract k (k + x.length)).toList == x)) := by
  have hl := size_len s
  rw [ByteArray.toList_eq, Lib.extract_data, Nat.add_sub_cancel_left, Bool.eq_iff_iff, Bool.and_eq_true, decide_eq_true_eq, beq_iff_eq]
  unfold Lib.hasPrefix
  rw [List.isPrefixOf_iff_prefix, List.prefix_iff_eq_take]
  constructor
  · intro h
    refine ⟨?_, h.symm⟩
    have := congrArg List.length h
    rw [List.length_take, List.length_drop, hl] at this
    omega
  · exact fun h => h.2.symm
set_option maxRecDepth 100000 in
set_option maxHeartbeats 2000000 in
theorem rtok_var (s : ByteArray) (at' : Nat) (w : World) (hs : s.size ≤ 65536) (hat : at' < s.size) (ht : Pch.textsL (s.data.toList.drop (at' + 1)) = true) (a1 : ¬ (48 : Int) ≤ (s[at'].toNat : Int)) (e34 : ((s[at'].toNat : Int) == 34) = false) (e39 : ((s[at'].toNat : Int) == 39) = false) (e36 : ((s[at'].toNat : Int) == 36) = true) :
    Calls Tryz.prog 63 #[.string s, .int .i64 at'] w fun e w' => TokR at' (Plx.wordR 1 4 (s.data.toList.drop at')) e ∧ Below w.heap.size w w' := by
  have i0 : (0 : Int) ≤ (at' : Int) := by omega
  have i1 : (at' : Int) < (s.size : Int) := by omega
  have cN := fun wx => refNameAt_any s (at' + 1) wx (by omega) (by omega) ht
  have hnl := Plx.nameN_le (s.data.toList.drop (at' + 1))
  rw [List.length_drop, size_len] at hnl
  unfold Plx.wordR
  rw [List.drop_drop]
  generalize hn : Plx.nameN (s.data.toList.drop (at' + 1)) = n at cN hnl
  obtain ⟨B, hB⟩ : ∃ B, (at' + 1) + n = B := ⟨_, rfl⟩
  rw [hB] at cN
  have ec : ((at' + 1 : Nat) : Int) = (at' : Int) + 1 := by omega
  rw [ec] at cN
  clear ec
  have k0 : (0 : Int) ≤ (B : Int) := by omega
  have k1 : (B : Int) ≤ (s.size : Int) := by omega
  have k2 : (B : Int) - ((at' : Int) + 1) = (n : Int) := by omega
  have k3 : (0 : Int) ≤ (at' : Int) + 1 := by omega
  have k4 : ((at' : Int) + 1).toNat = at' + 1 := by omega
  have k5 : ((at' : Int) + 1) ≤ (B : Int) := by omega
  have CN := Kept.mk cN
  have HB := Kept.mk hB
  clear cN hnl hn hB ht
  by_cases h1 : 100 < n
  · have b1 : (100 : Int) < (n : Int) := by omega
    rw [if_pos (.inl h1)]
    clear h1
    go_enter Tryz.func63, Tryz.ntmps63
    go_wp2_with (fail)
    refine (CN.out _).mono ?_; rintro e w' ⟨rfl, rfl⟩
    go_wp2_with (fail)
    refine bodyPost_ret (v := .tuple #[.agg #[.int .u8 0, .string ⟨#[]⟩, .int .i64 0, .int .i64 0], .int .i64 0, .int .i64 (220 : Nat)]) (by simp [results, Tryz.results63, go_sem]) rfl ⟨?_, (Below.refl _ _).alloc (Nat.le_refl _) _⟩
    exact TokR.err
  have b1 : ¬ (100 : Int) < (n : Int) := by omega
  by_cases h0 : n = 0
  · rw [if_pos (.inr ⟨h0, by decide⟩)]
    have b2 : ((B : Int) == ((at' : Int) + 1)) = true := by rw [beq_iff_eq]; omega
    clear h0 h1
    go_enter Tryz.func63, Tryz.ntmps63
    go_wp2_with (fail)
    refine (CN.out _).mono ?_; rintro e w' ⟨rfl, rfl⟩
    go_wp2_with (fail)
    refine bodyPost_ret (v := .tuple #[.agg #[.int .u8 0, .string ⟨#[]⟩, .int .i64 0, .int .i64 0], .int .i64 0, .int .i64 (220 : Nat)]) (by simp [results, Tryz.results63, go_sem]) rfl ⟨?_, (Below.refl _ _).alloc (Nat.le_refl _) _⟩
    exact TokR.err
  · rw [if_neg (by omega), if_pos h0]
    have b2 : ((B : Int) == ((at' : Int) + 1)) = false := by simp; have := HB.out; omega
    have b3 : ((at' : Int) + 1) < (B : Int) := by have := HB.out; omega
    have hX := extract_data' s (at' + 1) B
    rw [show B - (at' + 1) = n by have := HB.out; omega] at hX
    have HX := Kept.mk hX
    clear hX h0 h1
    go_enter Tryz.func63, Tryz.ntmps63
    go_wp2_with (fail)
    refine (CN.out _).mono ?_; rintro e w' ⟨rfl, rfl⟩
    go_wp2_with (fail)
    refine bodyPost_ret (v := .tuple #[.agg #[.int .u8 4, .string (s.extract (at' + 1) B), .int .i64 0, .int .i64 0], .int .i64 B, .int .i64 0]) (by simp [results, Tryz.results63, go_sem]) rfl ⟨?_, (Below.refl _ _).alloc (Nat.le_refl _) _⟩
    exact TokR.fine (by rw [← HB.out]; congr 1; omega) HX.out
set_option maxRecDepth 100000 in
set_option maxHeartbeats 2000000 in
theorem rtok_low (s : ByteArray) (at' : Nat) (w : World) (hs : s.size ≤ 65536) (hat : at' < s.size) (ht : Pch.textsL (s.data.toList.drop at') = true) (a1 : ¬ (48 : Int) ≤ (s[at'].toNat : Int)) (e34 : ((s[at'].toNat : Int) == 34) = false) (e39 : ((s[at'].toNat : Int) == 39) = false) (e36 : ((s[at'].toNat : Int) == 36) = false) :
    Calls Tryz.prog 63 #[.string s, .int .i64 at'] w fun e w' => TokR at' (Plx.wordR 0 1 (s.data.toList.drop at')) e ∧ Below w.heap.size w w' := by
  have i0 : (0 : Int) ≤ (at' : Int) := by omega
  have i1 : (at' : Int) < (s.size : Int) := by omega
  have cN := fun wx => refNameAt_any s at' wx (by omega) (by omega) ht
  have hnl := Plx.nameN_le (s.data.toList.drop at')
  rw [List.length_drop, size_len] at hnl
  unfold Plx.wordR
  rw [List.drop_zero]
  generalize hn : Plx.nameN (s.data.toList.drop at') = n at cN hnl
  obtain ⟨B, hB⟩ : ∃ B, at' + n = B := ⟨_, rfl⟩
  rw [hB] at cN
  have k0 : (0 : Int) ≤ (B : Int) := by omega
  have k1 : (B : Int) ≤ (s.size : Int) := by omega
  have k2 : (B : Int) - (at' : Int) = (n : Int) := by omega
  have k5 : (at' : Int) ≤ (B : Int) := by omega
  have CN := Kept.mk cN
  have HB := Kept.mk hB
  clear cN hnl hn hB ht
  by_cases h1 : 100 < n
  · have b1 : (100 : Int) < (n : Int) := by omega
    rw [if_pos (.inl h1)]
    clear h1
    go_enter Tryz.func63, Tryz.ntmps63
    go_wp2_with (fail)
    refine (CN.out _).mono ?_; rintro e w' ⟨rfl, rfl⟩
    go_wp2_with (fail)
    refine bodyPost_ret (v := .tuple #[.agg #[.int .u8 0, .string ⟨#[]⟩, .int .i64 0, .int .i64 0], .int .i64 0, .int .i64 (220 : Nat)]) (by simp [results, Tryz.results63, go_sem]) rfl ⟨?_, (Below.refl _ _).alloc (Nat.le_refl _) _⟩
    exact TokR.err
  have b1 : ¬ (100 : Int) < (n : Int) := by omega
  by_cases h0 : n = 0
  · rw [if_neg (by omega), if_neg (by omega)]
    obtain rfl : B = at' := by have := HB.out; omega
    clear h0 h1 k2
    obtain ⟨S, hS⟩ : ∃ S, Plx.signAt (s.data.toList.drop B) = S := ⟨_, rfl⟩
    have hR : ∀ r, S = r → Plx.signR (s.data.toList.drop B) = (match r with | some s => .ok ((5, s, 0), s.length) | none => .error 220) := fun r e => by
      unfold Plx.signR
      rw [hS, e]
      cases r <;> rfl
    generalize Plx.signR (s.data.toList.drop B) = R at hR ⊢
    unfold Plx.signAt at hS
    have HS := Kept.mk hS
    have HR := Kept.mk hR
    clear hS hR
    go_enter Tryz.func63, Tryz.ntmps63
    go_wp2_with (fail)
    refine (CN.out _).mono ?_; rintro e w' ⟨rfl, rfl⟩
    go_wp2_with (fail)
    refine (refSigns_any _).mono ?_; rintro e w2 ⟨rfl, rfl⟩
    have cs : ∀ j y, Plx.signsL[j]? = some y → ((w.alloc (.cells #[.int .u8 0, .string ⟨#[]⟩, .int .i64 0, .int .i64 0] 36)).alloc (.cells signsA 9)).cell? ⟨w.heap.size + 1, j, none⟩ = some (.string ⟨y.toArray⟩) := fun j y hy => by
      have e : w.heap.size + 1 = (w.alloc (.cells #[.int .u8 0, .string ⟨#[]⟩, .int .i64 0, .int .i64 0] 36)).heap.size := by rw [World.size_alloc]
      rw [e, World.cell?_alloc_new, signsA_at j y hy]
    have g3 : Below (w.alloc (.cells #[.int .u8 0, .string ⟨#[]⟩, .int .i64 0, .int .i64 0] 36)).heap.size (w.alloc (.cells #[.int .u8 0, .string ⟨#[]⟩, .int .i64 0, .int .i64 0] 36)) ((w.alloc (.cells #[.int .u8 0, .string ⟨#[]⟩, .int .i64 0, .int .i64 0] 36)).alloc (.cells signsA 9)) := (Below.refl _ _).alloc (Nat.le_refl _) _
    have CS := Kept.mk cs
    have G3 := Kept.mk g3
    clear cs g3
    generalize (w.alloc (.cells #[.int .u8 0, .string ⟨#[]⟩, .int .i64 0, .int .i64 0] 36)).alloc (.cells signsA 9) = W at CS G3 ⊢
    go_wp2_with (fail)
    go_loopw [17, 18] (fun i _ wx => ∃ k : Nat, k ≤ 24 ∧ i = .int .i64 k ∧ Below W.heap.size W wx ∧ Hid ((Plx.signsL.drop k).find? (fun x => Lib.hasPrefix (s.data.toList.drop B) x) = S)) (fun i _ _ => 24 - (intOf i).toNat)
    case atStart => exact ⟨0, by omega, rfl, Below.refl _ _, HS.out⟩
    case round =>
      obtain ⟨k, hk, rfl, hb, H⟩ := hrel
      by_cases hlt : k < 24
      · obtain ⟨x, hx⟩ : ∃ x, Plx.signsL[k]? = some x := ⟨Plx.signsL[k]'hlt, List.getElem?_eq_getElem hlt⟩
        have h := H.out
        rw [List.drop_eq_getElem_cons (show k < Plx.signsL.length from hlt), List.find?_cons, (List.getElem?_eq_some_iff.1 hx).2] at h
        have hsl := Plx.signs_len x (List.mem_of_getElem? hx)
        have c2 := cell_keep hb (CS.out k x hx)
        have hpx : Lib.hasPrefix (s.data.toList.drop B) x = (decide (B + x.length ≤ s.size) && ((s.extract B (B + x.length)).toList == x)) := has_cut s B x (by omega)
        obtain ⟨y, hy⟩ : ∃ y : ByteArray, y = ⟨x.toArray⟩ := ⟨_, rfl⟩
        have hys : y.size = x.length := by rw [hy]; simp [ByteArray.size]
        have hyl : y.toList = x := by rw [ByteArray.toList_eq, hy]
        rw [← hy] at c2
        conv at hpx => rhs; rw [← hys, ← hyl]
        rw [← hys] at hsl
        have HY := Kept.mk hy
        have HYS := Kept.mk hys
        have j0 : (0 : Int) ≤ (k : Int) := by omega
        have j1 : (k : Int) < 24 := by omega
        have j2 : (0 : Int) ≤ (B : Int) + (y.size : Int) := by omega
        have j3 : (B : Int) + (y.size : Int) ≤ 70000 := by omega
        have j4 : ((B : Int) + (y.size : Int)).toNat = B + y.size := by omega
        by_cases hfit : B + y.size ≤ s.size
        · rw [decide_eq_true hfit, Bool.true_and] at hpx
          have j5 : (B : Int) + (y.size : Int) ≤ (s.size : Int) := by omega
          have j6 : (B : Int) ≤ (B : Int) + (y.size : Int) := by omega
          cases hP : Lib.hasPrefix (s.data.toList.drop B) x with
          | true =>
            rw [hP] at h hpx
            have hX : Kept (S = some x) := ⟨h.symm⟩
            have q := hpx.symm
            have G4 := Kept.mk (G3.out.trans (hb.mono G3.out.size))
            obtain ⟨hc, hf⟩ := bcell G4.out
            have hz := G4.out.size
            clear h H hx hP hy hys hyl hpx hb hsl
            go_wp2
            go_quiet (fail)
            go_wp2
            refine bodyPost_ret (v := .tuple #[.agg #[.int .u8 5, .string y, .int .i64 0, .int .i64 0], .int .i64 ((B : Int) + (y.size : Int)), .int .i64 0]) (by simp [results, Tryz.results63, go_sem, hc]) rfl ⟨?_, set4 (below_tok (below_drewN G4.out _))⟩
            rw [HR.out _ hX.out]; exact TokR.fine (by rw [← HYS.out]; omega) HY.out
          | false =>
            rw [hP] at h hpx
            have q := hpx.symm
            have HBB := Kept.mk hb
            have HH := Kept.mk h
            clear h H hx hP hy hys hyl hpx hb hsl
            go_wp2
            go_quiet (fail)
            go_wp2
            go_roundw
            case rel => exact ⟨k + 1, by omega, by go_num, below_drewN HBB.out _, HH.out⟩
            case measure => simp [intOf]; omega
        · rw [decide_eq_false hfit, Bool.false_and] at hpx
          have j5 : decide ((B : Int) + (y.size : Int) ≤ (s.size : Int)) = false := by simp; omega
          rw [hpx] at h
          have HBB := Kept.mk hb
          have HH := Kept.mk h
          clear h H hx hy hys hyl hpx hb hsl
          go_wp2
          go_quiet (fail)
          go_wp2
          go_roundw
          case rel => exact ⟨k + 1, by omega, by go_num, below_drewN HBB.out _, HH.out⟩
          case measure => simp [intOf]; omega
      · obtain rfl : k = 24 := by omega
        have hX : Kept (S = none) := ⟨H.out.symm⟩
        have G4 := Kept.mk (G3.out.trans (hb.mono G3.out.size))
        obtain ⟨hc, hf⟩ := bcell G4.out
        have hz := G4.out.size
        clear H hb
        go_wp2_with (fail)
        refine bodyPost_ret (v := .tuple #[.agg #[.int .u8 0, .string ⟨#[]⟩, .int .i64 0, .int .i64 0], .int .i64 0, .int .i64 (220 : Nat)]) (by simp [results, Tryz.results63, go_sem, hc]) rfl ⟨?_, set4 (below_tok G4.out)⟩
        rw [HR.out _ hX.out]; exact TokR.err
  · rw [if_neg (by omega), if_pos h0]
    have b2 : ((B : Int) == (at' : Int)) = false := by simp; have := HB.out; omega
    have b3 : (at' : Int) < (B : Int) := by have := HB.out; omega
    have hX := extract_data' s at' B
    rw [show B - at' = n by have := HB.out; omega] at hX
    have HX := Kept.mk hX
    clear hX h0 h1
    go_enter Tryz.func63, Tryz.ntmps63
    go_wp2_with (fail)
    refine (CN.out _).mono ?_; rintro e w' ⟨rfl, rfl⟩
    go_wp2_with (fail)
    refine bodyPost_ret (v := .tuple #[.agg #[.int .u8 1, .string (s.extract at' B), .int .i64 0, .int .i64 0], .int .i64 B, .int .i64 0]) (by simp [results, Tryz.results63, go_sem]) rfl ⟨?_, (Below.refl _ _).alloc (Nat.le_refl _) _⟩
    exact TokR.fine (by rw [← HB.out]; congr 1; omega) HX.out
set_option maxRecDepth 100000 in
set_option maxHeartbeats 2000000 in
theorem rtok_high (s : ByteArray) (at' : Nat) (w : World) (hs : s.size ≤ 65536) (hat : at' < s.size) (ht : Pch.textsL (s.data.toList.drop at') = true) (a1 : (48 : Int) ≤ (s[at'].toNat : Int)) (a2 : ¬ (s[at'].toNat : Int) ≤ 57) (e34 : ((s[at'].toNat : Int) == 34) = false) (e39 : ((s[at'].toNat : Int) == 39) = false) (e36 : ((s[at'].toNat : Int) == 36) = false) :
    Calls Tryz.prog 63 #[.string s, .int .i64 at'] w fun e w' => TokR at' (Plx.wordR 0 1 (s.data.toList.drop at')) e ∧ Below w.heap.size w w' := by
  have i0 : (0 : Int) ≤ (at' : Int) := by omega
  have i1 : (at' : Int) < (s.size : Int) := by omega
  have cN := fun wx => refNameAt_any s at' wx (by omega) (by omega) ht
  have hnl := Plx.nameN_le (s.data.toList.drop at')
  rw [List.length_drop, size_len] at hnl
  unfold Plx.wordR
  rw [List.drop_zero]
  generalize hn : Plx.nameN (s.data.toList.drop at') = n at cN hnl
  obtain ⟨B, hB⟩ : ∃ B, at' + n = B := ⟨_, rfl⟩
  rw [hB] at cN
  have k0 : (0 : Int) ≤ (B : Int) := by omega
  have k1 : (B : Int) ≤ (s.size : Int) := by omega
  have k2 : (B : Int) - (at' : Int) = (n : Int) := by omega
  have k5 : (at' : Int) ≤ (B : Int) := by omega
  have CN := Kept.mk cN
  have HB := Kept.mk hB
  clear cN hnl hn hB ht
  by_cases h1 : 100 < n
  · have b1 : (100 : Int) < (n : Int) := by omega
    rw [if_pos (.inl h1)]
    clear h1
    go_enter Tryz.func63, Tryz.ntmps63
    go_wp2_with (fail)
    refine (CN.out _).mono ?_; rintro e w' ⟨rfl, rfl⟩
    go_wp2_with (fail)
    refine bodyPost_ret (v := .tuple #[.agg #[.int .u8 0, .string ⟨#[]⟩, .int .i64 0, .int .i64 0], .int .i64 0, .int .i64 (220 : Nat)]) (by simp [results, Tryz.results63, go_sem]) rfl ⟨?_, (Below.refl _ _).alloc (Nat.le_refl _) _⟩
    exact TokR.err
  have b1 : ¬ (100 : Int) < (n : Int) := by omega
  by_cases h0 : n = 0
  · rw [if_neg (by omega), if_neg (by omega)]
    obtain rfl : B = at' := by have := HB.out; omega
    clear h0 h1 k2
    obtain ⟨S, hS⟩ : ∃ S, Plx.signAt (s.data.toList.drop B) = S := ⟨_, rfl⟩
    have hR : ∀ r, S = r → Plx.signR (s.data.toList.drop B) = (match r with | some s => .ok ((5, s, 0), s.length) | none => .error 220) := fun r e => by
      unfold Plx.signR
      rw [hS, e]
      cases r <;> rfl
    generalize Plx.signR (s.data.toList.drop B) = R at hR ⊢
    unfold Plx.signAt at hS
    have HS := Kept.mk hS
    have HR := Kept.mk hR
    clear hS hR
    go_enter Tryz.func63, Tryz.ntmps63
    go_wp2_with (fail)
    refine (CN.out _).mono ?_; rintro e w' ⟨rfl, rfl⟩
    go_wp2_with (fail)
    refine (refSigns_any _).mono ?_; rintro e w2 ⟨rfl, rfl⟩
    have cs : ∀ j y, Plx.signsL[j]? = some y → ((w.alloc (.cells #[.int .u8 0, .string ⟨#[]⟩, .int .i64 0, .int .i64 0] 36)).alloc (.cells signsA 9)).cell? ⟨w.heap.size + 1, j, none⟩ = some (.string ⟨y.toArray⟩) := fun j y hy => by
      have e : w.heap.size + 1 = (w.alloc (.cells #[.int .u8 0, .string ⟨#[]⟩, .int .i64 0, .int .i64 0] 36)).heap.size := by rw [World.size_alloc]
      rw [e, World.cell?_alloc_new, signsA_at j y hy]
    have g3 : Below (w.alloc (.cells #[.int .u8 0, .string ⟨#[]⟩, .int .i64 0, .int .i64 0] 36)).heap.size (w.alloc (.cells #[.int .u8 0, .string ⟨#[]⟩, .int .i64 0, .int .i64 0] 36)) ((w.alloc (.cells #[.int .u8 0, .string ⟨#[]⟩, .int .i64 0, .int .i64 0] 36)).alloc (.cells signsA 9)) := (Below.refl _ _).alloc (Nat.le_refl _) _
    have CS := Kept.mk cs
    have G3 := Kept.mk g3
    clear cs g3
    generalize (w.alloc (.cells #[.int .u8 0, .string ⟨#[]⟩, .int .i64 0, .int .i64 0] 36)).alloc (.cells signsA 9) = W at CS G3 ⊢
    go_wp2_with (fail)
    go_loopw [17, 18] (fun i _ wx => ∃ k : Nat, k ≤ 24 ∧ i = .int .i64 k ∧ Below W.heap.size W wx ∧ Hid ((Plx.signsL.drop k).find? (fun x => Lib.hasPrefix (s.data.toList.drop B) x) = S)) (fun i _ _ => 24 - (intOf i).toNat)
    case atStart => exact ⟨0, by omega, rfl, Below.refl _ _, HS.out⟩
    case round =>
      obtain ⟨k, hk, rfl, hb, H⟩ := hrel
      by_cases hlt : k < 24
      · obtain ⟨x, hx⟩ : ∃ x, Plx.signsL[k]? = some x := ⟨Plx.signsL[k]'hlt, List.getElem?_eq_getElem hlt⟩
        have h := H.out
        rw [List.drop_eq_getElem_cons (show k < Plx.signsL.length from hlt), List.find?_cons, (List.getElem?_eq_some_iff.1 hx).2] at h
        have hsl := Plx.signs_len x (List.mem_of_getElem? hx)
        have c2 := cell_keep hb (CS.out k x hx)
        have hpx : Lib.hasPrefix (s.data.toList.drop B) x = (decide (B + x.length ≤ s.size) && ((s.extract B (B + x.length)).toList == x)) := has_cut s B x (by omega)
        obtain ⟨y, hy⟩ : ∃ y : ByteArray, y = ⟨x.toArray⟩ := ⟨_, rfl⟩
        have hys : y.size = x.length := by rw [hy]; simp [ByteArray.size]
        have hyl : y.toList = x := by rw [ByteArray.toList_eq, hy]
        rw [← hy] at c2
        conv at hpx => rhs; rw [← hys, ← hyl]
        rw [← hys] at hsl
        have HY := Kept.mk hy
        have HYS := Kept.mk hys
        have j0 : (0 : Int) ≤ (k : Int) := by omega
        have j1 : (k : Int) < 24 := by omega
        have j2 : (0 : Int) ≤ (B : Int) + (y.size : Int) := by omega
        have j3 : (B : Int) + (y.size : Int) ≤ 70000 := by omega
        have j4 : ((B : Int) + (y.size : Int)).toNat = B + y.size := by omega
        by_cases hfit : B + y.size ≤ s.size
        · rw [decide_eq_true hfit, Bool.true_and] at hpx
          have j5 : (B : Int) + (y.size : Int) ≤ (s.size : Int) := by omega
          have j6 : (B : Int) ≤ (B : Int) + (y.size : Int) := by omega
          cases hP : Lib.hasPrefix (s.data.toList.drop B) x with
          | true =>
            rw [hP] at h hpx
            have hX : Kept (S = some x) := ⟨h.symm⟩
            have q := hpx.symm
            have G4 := Kept.mk (G3.out.trans (hb.mono G3.out.size))
            obtain ⟨hc, hf⟩ := bcell G4.out
            have hz := G4.out.size
            clear h H hx hP hy hys hyl hpx hb hsl
            go_wp2
            go_quiet (fail)
            go_wp2
            refine bodyPost_ret (v := .tuple #[.agg #[.int .u8 5, .string y, .int .i64 0, .int .i64 0], .int .i64 ((B : Int) + (y.size : Int)), .int .i64 0]) (by simp [results, Tryz.results63, go_sem, hc]) rfl ⟨?_, set4 (below_tok (below_drewN G4.out _))⟩
            rw [HR.out _ hX.out]; exact TokR.fine (by rw [← HYS.out]; omega) HY.out
          | false =>
            rw [hP] at h hpx
            have q := hpx.symm
            have HBB := Kept.mk hb
            have HH := Kept.mk h
            clear h H hx hP hy hys hyl hpx hb hsl
            go_wp2
            go_quiet (fail)
            go_wp2
            go_roundw
            case rel => exact ⟨k + 1, by omega, by go_num, below_drewN HBB.out _, HH.out⟩
            case measure => simp [intOf]; omega
        · rw [decide_eq_false hfit, Bool.false_and] at hpx
          have j5 : decide ((B : Int) + (y.size : Int) ≤ (s.size : Int)) = false := by simp; omega
          rw [hpx] at h
          have HBB := Kept.mk hb
          have HH := Kept.mk h
          clear h H hx hy hys hyl hpx hb hsl
          go_wp2
          go_quiet (fail)
          go_wp2
          go_roundw
          case rel => exact ⟨k + 1, by omega, by go_num, below_drewN HBB.out _, HH.out⟩
          case measure => simp [intOf]; omega
      · obtain rfl : k = 24 := by omega
        have hX : Kept (S = none) := ⟨H.out.symm⟩
        have G4 := Kept.mk (G3.out.trans (hb.mono G3.out.size))
        obtain ⟨hc, hf⟩ := bcell G4.out
        have hz := G4.out.size
        clear H hb
        go_wp2_with (fail)
        refine bodyPost_ret (v := .tuple #[.agg #[.int .u8 0, .string ⟨#[]⟩, .int .i64 0, .int .i64 0], .int .i64 0, .int .i64 (220 : Nat)]) (by simp [results, Tryz.results63, go_sem, hc]) rfl ⟨?_, set4 (below_tok G4.out)⟩
        rw [HR.out _ hX.out]; exact TokR.err
  · rw [if_neg (by omega), if_pos h0]
    have b2 : ((B : Int) == (at' : Int)) = false := by simp; have := HB.out; omega
    have b3 : (at' : Int) < (B : Int) := by have := HB.out; omega
    have hX := extract_data' s at' B
    rw [show B - at' = n by have := HB.out; omega] at hX
    have HX := Kept.mk hX
    clear hX h0 h1
    go_enter Tryz.func63, Tryz.ntmps63
    go_wp2_with (fail)
    refine (CN.out _).mono ?_; rintro e w' ⟨rfl, rfl⟩
    go_wp2_with (fail)
    refine bodyPost_ret (v := .tuple #[.agg #[.int .u8 1, .string (s.extract at' B), .int .i64 0, .int .i64 0], .int .i64 B, .int .i64 0]) (by simp [results, Tryz.results63, go_sem]) rfl ⟨?_, (Below.refl _ _).alloc (Nat.le_refl _) _⟩
    exact TokR.fine (by rw [← HB.out]; congr 1; omega) HX.out
end Go.Proofs.YtfamljigcffngaaGreatDoor.Wlx
