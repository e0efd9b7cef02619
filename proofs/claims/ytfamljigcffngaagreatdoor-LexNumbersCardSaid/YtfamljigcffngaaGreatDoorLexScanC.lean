/- The walk over the document's whole (chapter 22). -/
import Derived.Test.YtfamljigcffngaaGreatDoorLexScanB
import Derived.IntWalk
namespace Go.Proofs.YtfamljigcffngaaGreatDoor.Wlx
open Go Go.RowKit Go.Proofs.YtfamljigcffngaaGreatDoor.Wch

/-- over: is the number too great that digits say? -/
def overB (l : List UInt8) : Bool := decide (9223372036854775807 < Pdg.dv 0 l)
/-- is it with one digit more? -/
def overS (n : Nat) (c : UInt8) : Bool := decide (9223372036854775807 < 10 * n + (c.toNat - 48))
theorem over_step {l : List UInt8} {c : UInt8} (h : Plx.isDig c = true) (n : Nat) (hn : n = Pdg.dv 0 l) : overB (l ++ [c]) = overS n c ∧ (overS n c = false → 10 * n + (c.toNat - 48) = Pdg.dv 0 (l ++ [c])) := by
  rw [Plx.isDig_dgt, Pdg.dgt_iff] at h
  have e : c.toNat % 48 = c.toNat - 48 := by omega
  unfold overB overS
  rw [Pdg.dv_snoc, e, hn]
  exact ⟨rfl, fun _ => rfl⟩
theorem over_stay {l : List UInt8} (c : UInt8) (h0 : overB l = true) : overB (l ++ [c]) = true := by
  unfold overB at *
  rw [decide_eq_true_eq] at *
  rw [Pdg.dv_snoc]
  omega
theorem overS_test (n : Nat) (c : UInt8) (h : 48 ≤ c.toNat ∧ c.toNat ≤ 57) : decide ((9223372036854775807 - ((c.toNat : Int) - 48)) / 10 < (n : Int)) = overS n c := by
  unfold overS
  rw [Bool.eq_iff_iff, decide_eq_true_eq, decide_eq_true_eq]
  omega
theorem over_val (n : Nat) (c : UInt8) (h : 48 ≤ c.toNat ∧ c.toNat ≤ 57) (ho : overS n c = false) : IntKind.u64.wrap (IntKind.u64.wrap (10 * (n : Int)) + ((c.toNat : Int) - 48)) = ((10 * n + (c.toNat - 48) : Nat) : Int) := by
  unfold overS at ho
  rw [decide_eq_false_iff_not] at ho
  rw [IntKind.wrap_u64, IntKind.wrap_u64]
  omega
/-- what whole hands back -/
def wholeR (l : List UInt8) (at' : Nat) : Int × Int × Int :=
  if Plx.nameN (l.drop (Plx.digN l)) ≠ 0 then (0, ((at' + Plx.digN l : Nat) : Int), 220)
  else if overB (l.take (Plx.digN l)) = true then (0, ((at' + Plx.digN l : Nat) : Int), 251)
  else ((Plx.numN l : Int), ((at' + Plx.digN l : Nat) : Int), 0)
theorem ret_iii {a b : Int × Int × Int} (h : a = b) : Ending.returned (.tuple #[.int .i64 a.1, .int .i64 a.2.1, .int .i64 a.2.2]) = .returned (.tuple #[.int .i64 b.1, .int .i64 b.2.1, .int .i64 b.2.2]) := by rw [h]
set_option maxRecDepth 100000 in
set_option maxHeartbeats 2000000 in
theorem refWhole_any (s : ByteArray) (at' : Nat) (w : World) (hs : s.size ≤ 100000) (hat : at' ≤ s.size) (ht : Pch.textsL (s.data.toList.drop at') = true) :
    Calls Tryz.prog 102 #[.string s, .int .i64 at'] w fun e w' => e = .returned (.tuple #[.int .i64 (wholeR (s.data.toList.drop at') at').1, .int .i64 (wholeR (s.data.toList.drop at') at').2.1, .int .i64 (wholeR (s.data.toList.drop at') at').2.2]) ∧ w = w' := by
  generalize hT : wholeR (s.data.toList.drop at') at' = T
  have HT := Kept.mk hT
  have HX := Kept.mk ht
  have hL := size_len s
  clear hT ht
  obtain ⟨l, hl⟩ : ∃ l, s.data.toList.drop at' = l := ⟨_, rfl⟩
  rw [hl] at HT HX
  have hll : l.length = s.size - at' := by rw [← hl, List.length_drop, hL]
  have hdl := Plx.digN_le l
  have HLL := Kept.mk hl
  obtain ⟨d, hd⟩ : ∃ d, Plx.digN l = d := ⟨_, rfl⟩
  have HDD := Kept.mk hd
  have hd1 : at' + d ≤ s.size := by omega
  clear hl hll hdl hd hL
  go_enter Tryz.func102, Tryz.ntmps102
  go_wp2
  go_loop [1, 7, 8, 9] (fun a n o _ => ∃ (pos N : Nat) (O : Bool), at' ≤ pos ∧ pos ≤ at' + d ∧ a = .int .i64 pos ∧ n = .int .u64 N ∧ o = .bool O ∧ Kept (O = overB (l.take (pos - at'))) ∧ Kept (O = false → N = Pdg.dv 0 (l.take (pos - at')))) (fun a _ _ _ => s.size - (intOf a).toNat)
  case atStart => exact ⟨at', 0, false, by omega, by omega, rfl, rfl, rfl, ⟨by rw [Nat.sub_self]; rfl⟩, ⟨fun _ => by rw [Nat.sub_self]; rfl⟩⟩
  case round =>
    obtain ⟨pos, N, O, hp0, hp1, rfl, rfl, rfl, HO, HN⟩ := hrel
    have j0 : (0 : Int) ≤ (pos : Int) := by omega
    by_cases hlt : pos < at' + d
    · have hps : pos < s.size := by omega
      have j1 : (pos : Int) < (s.size : Int) := by omega
      have hget : l[pos - at']? = some s[pos] := by
        rw [← HLL.out, List.getElem?_drop, show at' + (pos - at') = pos by omega]
        have := drop_at s pos hps
        have h2 := List.getElem?_drop (xs := s.data.toList) (i := pos) (j := 0)
        rw [this] at h2
        simpa using h2.symm
      obtain ⟨hdg, htk⟩ := Plx.dig_more l (pos - at') s[pos] (by rw [HDD.out]; omega) hget
      have hdr : 48 ≤ s[pos].toNat ∧ s[pos].toNat ≤ 57 := by rw [Plx.isDig_dgt, Pdg.dgt_iff] at hdg; exact hdg
      have hsub : pos + 1 - at' = pos - at' + 1 := by omega
      have HTK := Kept.mk htk
      have HDG := Kept.mk hdg
      have HSB := Kept.mk hsub
      clear hget htk hdg hsub
      generalize hc : s[pos] = c at HTK HDG hdr
      have c0 : (48 : Int) ≤ (c.toNat : Int) := by omega
      have c1 : (c.toNat : Int) ≤ 57 := by omega
      cases O with
      | true =>
        have h1 : Kept (true = overB (l.take (pos + 1 - at'))) := ⟨by rw [HSB.out, HTK.out, over_stay c HO.out.symm]⟩
        have hcc := Kept.mk hc
        clear HO HN hdr
        go_wp2
        go_round
        case rel => exact ⟨pos + 1, N, true, by omega, by omega, by go_num, rfl, rfl, h1, ⟨fun e => by cases e⟩⟩
        case measure => simp [intOf]; omega
      | false =>
        have h2 := over_step HDG.out N (HN.out rfl)
        rw [← HTK.out, ← HSB.out] at h2
        have hts := overS_test N c hdr
        have hV := over_val N c hdr
        generalize hov : overS N c = V at h2 hts hV
        have H2 := Kept.mk h2
        have HV := Kept.mk hV
        clear HO HN h2 hov hV
        cases V with
        | true =>
          go_wp2
          go_round
          case rel => exact ⟨pos + 1, N, true, by omega, by omega, by go_num, rfl, rfl, ⟨H2.out.1.symm⟩, ⟨fun e => by cases e⟩⟩
          case measure => simp [intOf]; omega
        | false =>
          go_wp2
          go_round
          case rel => exact ⟨pos + 1, 10 * N + (c.toNat - 48), false, by omega, by omega, by go_num, by rw [HV.out rfl], rfl, ⟨H2.out.1.symm⟩, ⟨fun _ => H2.out.2 rfl⟩⟩
          case measure => simp [intOf]; omega
    · obtain rfl : pos = at' + d := by omega
      have hsb : at' + d - at' = d := by omega
      rw [hsb] at HO HN
      have hbh := Plx.dig_behind _ HX.out
      rw [HDD.out, ← HLL.out, List.drop_drop] at hbh
      have cM := fun wx => refNameAt_any s (at' + d) wx hs hd1 hbh
      have hres := HT.out
      unfold wholeR at hres
      have hnum : Kept (O = false → (Plx.numN (s.data.toList.drop at') : Int) = (N : Int)) := ⟨fun e => by rw [HLL.out]; unfold Plx.numN; rw [HDD.out, HN.out e]⟩
      have hwr : Kept (O = false → wrap64 (N : Int) = (N : Int)) := ⟨fun e => by
        have h1 := HO.out
        rw [e] at h1
        have h2 := HN.out e
        unfold overB at h1
        have h3 := of_decide_eq_false h1.symm
        unfold wrap64
        omega⟩
      rw [HDD.out, ← HO.out] at hres
      rw [← HLL.out, List.drop_drop] at hres
      generalize hnn : Plx.nameN (s.data.toList.drop (at' + d)) = m at cM hres
      have HR := Kept.mk hres
      have CM := Kept.mk cM
      have HST := Kept.mk (Plx.dig_stop l)
      obtain ⟨P, hP⟩ : ∃ P, P = at' + d := ⟨_, rfl⟩
      have hPs : P ≤ s.size := by omega
      rw [← hP] at CM HR ⊢
      have HPP := Kept.mk hP
      have k0 : (0 : Int) ≤ (P : Int) := by omega
      have k1 : (P : Int) + (m : Int) ≤ 300000 := by
        have := Plx.nameN_le (s.data.toList.drop (at' + d))
        rw [hnn, List.length_drop, size_len] at this
        omega
      clear hres cM hbh hsb HO HN hnn hP j0 hlt hp0 hp1
      by_cases hps : P < s.size
      · have hdg : Plx.isDig s[P] = false := HST.out s[P] (by
          rw [HDD.out, ← HLL.out, List.getElem?_drop, ← HPP.out]
          have h1 := drop_at s P hps
          have h2 := List.getElem?_drop (xs := s.data.toList) (i := P) (j := 0)
          rw [h1] at h2
          simpa using h2.symm)
        have hdr : ¬ (48 ≤ s[P].toNat ∧ s[P].toNat ≤ 57) := by
          rw [Plx.isDig_dgt] at hdg
          intro h
          rw [(Pdg.dgt_iff _).2 h] at hdg
          cases hdg
        generalize hc : s[P] = c at hdr
        have HCC := Kept.mk hc
        by_cases h48 : 48 ≤ c.toNat
        · have c0 : (48 : Int) ≤ (c.toNat : Int) := by omega
          have c1 : ¬ (c.toNat : Int) ≤ 57 := by omega
          clear hdr hdg h48
          go_wp2_with (fail)
          refine (CM.out _).mono ?_; rintro e w' ⟨rfl, rfl⟩
          by_cases hm : m = 0
          · subst hm
            have h1 := HR.out
            rw [if_neg (by simp)] at h1
            cases O with
            | true =>
              rw [if_pos rfl] at h1
              have H1 := Kept.mk h1
              clear h1
              go_wp2
              go_ret3
              exact ⟨ret_iii H1.out, rfl⟩
            | false =>
              rw [if_neg (by simp), hnum.out rfl, ← hwr.out rfl] at h1
              have H1 := Kept.mk h1
              clear h1
              go_wp2
              go_ret3
              exact ⟨ret_iii H1.out, rfl⟩
          · have h1 := HR.out
            rw [if_pos hm] at h1
            have hm0 : 0 < m := by omega
            have H1 := Kept.mk h1
            clear h1 hm
            go_wp2
            go_ret3
            exact ⟨ret_iii H1.out, rfl⟩
        · have c0 : ¬ (48 : Int) ≤ (c.toNat : Int) := by omega
          clear hdr hdg h48
          go_wp2_with (fail)
          refine (CM.out _).mono ?_; rintro e w' ⟨rfl, rfl⟩
          by_cases hm : m = 0
          · subst hm
            have h1 := HR.out
            rw [if_neg (by simp)] at h1
            cases O with
            | true =>
              rw [if_pos rfl] at h1
              have H1 := Kept.mk h1
              clear h1
              go_wp2
              go_ret3
              exact ⟨ret_iii H1.out, rfl⟩
            | false =>
              rw [if_neg (by simp), hnum.out rfl, ← hwr.out rfl] at h1
              have H1 := Kept.mk h1
              clear h1
              go_wp2
              go_ret3
              exact ⟨ret_iii H1.out, rfl⟩
          · have h1 := HR.out
            rw [if_pos hm] at h1
            have hm0 : 0 < m := by omega
            have H1 := Kept.mk h1
            clear h1 hm
            go_wp2
            go_ret3
            exact ⟨ret_iii H1.out, rfl⟩
      · obtain rfl : P = s.size := by omega
        go_wp2_with (fail)
        refine (CM.out _).mono ?_; rintro e w' ⟨rfl, rfl⟩
        by_cases hm : m = 0
        · subst hm
          have h1 := HR.out
          rw [if_neg (by simp)] at h1
          cases O with
          | true =>
            rw [if_pos rfl] at h1
            have H1 := Kept.mk h1
            clear h1
            go_wp2
            go_ret3
            exact ⟨ret_iii H1.out, rfl⟩
          | false =>
            rw [if_neg (by simp), hnum.out rfl, ← hwr.out rfl] at h1
            have H1 := Kept.mk h1
            clear h1
            go_wp2
            go_ret3
            exact ⟨ret_iii H1.out, rfl⟩
        · have h1 := HR.out
          rw [if_pos hm] at h1
          have hm0 : 0 < m := by omega
          have H1 := Kept.mk h1
          clear h1 hm
          go_wp2
          go_ret3
          exact ⟨ret_iii H1.out, rfl⟩
end Go.Proofs.YtfamljigcffngaaGreatDoor.Wlx
