/- The walk over the iterator words$1 (chapter 31). -/
import Derived.RangeFuncBox
import Derived.RangeFuncNested
import Derived.RangeFuncBound
import Derived.RangeFuncCalls
import Derived.RangeFuncLeaves
import Derived.Shelf.Abstract
import Derived.Shelf.RegionOpen
import Derived.WalkKit
import Derived.OwnWalkIn
import Derived.TacticsInMore
import Derived.LoopNIn
import Derived.LoopIn
import Derived.Stop.RegionWithIn
import Derived.Sort.QuietIn
import Derived.Test.YtakccaldcolbmaaGreatDoorLinesS
import Derived.Test.YtakccaldcolbmaaGreatDoorLinesRefW
import Derived.Test.YtakccaldcolbmaaGreatDoorShelfLines
namespace Go.Proofs.YtakccaldcolbmaaGreatDoor.Wln
open Go Go.RowKit Go.Shelf Go.Proofs.YtakccaldcolbmaaGreatDoor.Kb
attribute [local go_sem] Oper.semAt_some

/-- what one round hands back -/
def YP (J : Option (List (List UInt8)) → World → Prop) (Jx : World → Prop) (o : Option (List (List UInt8))) (b : Nat) (v : Value) (e : Ending) (Y : World) : Prop :=
  ∃ z : Bool, e = .returned (.bool z) ∧ Kept ((z = true ∧ J o Y ∧ Boxed Y b 9 v) ∨ (z = false ∧ Jx Y))
/-- where the next word begins -/
def strAt (b : Nat) (w : World) : Nat := Lib.strSize ((w.cell? ⟨b, 0, none⟩).getD undef)
theorem strAt_box {b : Nat} {w : World} {t : TypeId} {u : ByteArray} (h : Boxed w b t (.string u)) : strAt b w = u.size := by unfold strAt; rw [h.cell]; rfl
theorem grown_drewN (W : World) (n : Nat) (b : Option Nat) : W.grownBy (W.drewN n) b := ⟨rfl, rfl, rfl, Nat.le_refl _, fun _ _ _ => rfl⟩
theorem boxed_drewN {W : World} {b : Nat} {t : TypeId} {v : Value} (h : Boxed W b t v) (n : Nat) : Boxed (W.drewN n) b t v := h
/-- the rest of the line, trimmed, at the next round's beginning -/
theorem next_rel {J : Nat → Option (List (List UInt8)) → World → Prop} {b m : Nat} {S : ByteArray} {W3 : World} (HJ : Kept (∀ k o X Y, J k o X → X.grownBy Y (some b) → J k o Y)) (HM : Kept (∀ k k' o X, k' ≤ k → J k o X → J k' o X)) (HB : Kept (Boxed W3 b 9 (.string S))) (H3 : Kept (J (S.size - m) (Pln.wordsL (S.data.toList.drop m)) W3)) (h1 : 0 < m) (h2 : S.size ≤ 65536) :
    ∃ T : ByteArray, Kept (T.data.toList.head? ≠ some 32 ∧ T.size ≤ 65536 ∧ Boxed ((W3.setCell ⟨b, 0, none⟩ (.string (S.extract m S.size))).setCell ⟨b, 0, none⟩ (.string ⟨(Lib.trimLeftB (List.take (S.size - m) (List.drop m S.data.toList)) 32).toArray⟩)) b 9 (.string T) ∧ J T.size (Pln.wordsL T.data.toList) ((W3.setCell ⟨b, 0, none⟩ (.string (S.extract m S.size))).setCell ⟨b, 0, none⟩ (.string ⟨(Lib.trimLeftB (List.take (S.size - m) (List.drop m S.data.toList)) 32).toArray⟩))) := by
  have e : List.take (S.size - m) (List.drop m S.data.toList) = S.data.toList.drop m := by
    rw [List.take_of_length_le (by rw [List.length_drop, size_len]; exact Nat.le_refl _)]
  rw [e]
  refine ⟨⟨(Lib.trimLeftB (S.data.toList.drop m) 32).toArray⟩, ⟨Pln.dropw_head _, ?_, (HB.out.set _).set _, ?_⟩⟩
  · rw [Lib.size_mk]
    refine Nat.le_trans (Pln.dropw_len _) ?_
    rw [List.length_drop, size_len]
    omega
  · have : Pln.wordsL (⟨(Lib.trimLeftB (S.data.toList.drop m) 32).toArray⟩ : ByteArray).data.toList = Pln.wordsL (S.data.toList.drop m) := Pln.words_dropw _
    rw [this]
    refine HJ.out _ _ _ _ (HJ.out _ _ _ _ (HM.out _ _ _ _ ?_ H3.out) (grownBy_setCell' _ _ _)) (grownBy_setCell' _ _ _)
    rw [Lib.size_mk]
    refine Nat.le_trans (Pln.dropw_len _) ?_
    rw [List.length_drop, size_len]
    exact Nat.le_refl _
theorem next_meas {b m : Nat} {S : ByteArray} {W3 wr : World} (HB : Kept (Boxed W3 b 9 (.string S))) (HR : Boxed wr b 9 (.string S)) (h1 : 0 < m) (h0 : 0 < S.size) :
    strAt b ((W3.setCell ⟨b, 0, none⟩ (.string (S.extract m S.size))).setCell ⟨b, 0, none⟩ (.string ⟨(Lib.trimLeftB (List.take (S.size - m) (List.drop m S.data.toList)) 32).toArray⟩)) < strAt b wr := by
  have e : List.take (S.size - m) (List.drop m S.data.toList) = S.data.toList.drop m := by
    rw [List.take_of_length_le (by rw [List.length_drop, size_len]; exact Nat.le_refl _)]
  rw [strAt_box ((HB.out.set _).set _), strAt_box HR, Lib.size_mk, e]
  have := Pln.dropw_len (S.data.toList.drop m)
  rw [List.length_drop, size_len] at this
  omega
set_option maxRecDepth 100000 in
set_option maxHeartbeats 4000000 in
theorem words1_in (l b : Nat) (J : Nat → Option (List (List UInt8)) → World → Prop) (Jx : World → Prop)
    (hJ : ∀ k o X Y, J k o X → X.grownBy Y (some b) → J k o Y) (hM : ∀ k k' o X, k' ≤ k → J k o X → J k' o X)
    (hY : ∀ k o x X v, x ≠ [] → J (k + 1) (o.map (x :: ·)) X → Boxed X b 9 v → YieldAt Fence.wide 4 Tryz.prog l #[.string ⟨x.toArray⟩] X (YP (J k) Jx o b v))
    (hN : ∀ k X, J k none X → YieldAt Fence.wide 4 Tryz.prog l #[.string ⟨#[]⟩] X fun e Y => ∃ z : Bool, e = .returned (.bool z) ∧ Jx Y)
    (s : ByteArray) (hs : s.size ≤ 65536) (W : World) (hb : Boxed W b 9 (.string s)) (h0 : J s.size (Pln.wordsL s.data.toList) W) :
    CallsIn Fence.wide 5 Tryz.prog 65 #[.func (.yield l) #[] #[], .pointer (some ⟨b, 0, none⟩)] W fun e Y => (∃ v, e = .returned v) ∧ (J 0 (some []) Y ∨ Jx Y) := by
  have HJ := Kept.mk hJ
  have HM := Kept.mk hM
  have HY := Kept.mk hY
  have HN := Kept.mk hN
  have H0 := Kept.mk h0
  clear hJ hM hY hN h0
  have c0 := hb.cell
  have f0 := hb.frozen
  have HBX := Kept.mk hb
  have cT := (callsIn_wide (n := 4).2 (Any.strings_Trim_one Tryz.lays160 s 32 (by decide) W (by omega))).mono (R' := fun e w' => e = .returned (.string ⟨(Lib.trimB s.data.toList 32).toArray⟩) ∧ w'.cell? ⟨b, 0, none⟩ = some (.string s) ∧ w'.frozen? ⟨b, 0, none⟩ = false ∧ Kept (Boxed w' b 9 (.string s)) ∧ Kept (J s.size (Pln.wordsL s.data.toList) w')) (by
    rintro e w' ⟨he, rfl | rfl⟩
    · exact ⟨he, c0, f0, HBX, H0⟩
    · exact ⟨he, c0, f0, HBX, ⟨HJ.out _ _ _ _ H0.out ⟨rfl, rfl, rfl, Nat.le_refl _, fun _ _ _ => rfl⟩⟩⟩)
  clear hb H0 HBX
  have CT := Kept.mk cT
  clear cT
  refine callsIn_of_wp Tryz.func65 rfl trivial ?_ rfl
  simp only [Tryz.ntmps65, List.size_toArray, List.length_cons, List.length_nil, Nat.reduceAdd, Nat.reduceSub, Array.replicate_succ, Array.replicate_zero, List.push_toArray, List.append_toArray, List.nil_append, List.cons_append]
  gi_wp2_with (first
    | (refine ⟨trivial, ?_⟩; gi_at_call 66; refine CT.out.mono ?_; rintro e w1 ⟨rfl, c1, f1, HB1, HJ1⟩)
    | (gi_at_call 66; refine CT.out.mono ?_; rintro e w1 ⟨rfl, c1, f1, HB1, HJ1⟩))
  have hb2 := HB1.out.set (.string ⟨(Lib.trimB s.data.toList 32).toArray⟩)
  have hj2 := HJ.out _ _ _ _ (HM.out s.size (Lib.trimB s.data.toList 32).length _ _ (by rw [← size_len s]; exact Pln.trim_len _) HJ1.out) (grownBy_setCell' w1 b (.string ⟨(Lib.trimB s.data.toList 32).toArray⟩))
  rw [← Pln.words_trim] at hj2
  have hh := Pln.trim_head s.data.toList
  have hl2 : (Lib.trimB s.data.toList 32).length ≤ 65536 := Nat.le_trans (Pln.trim_len _) (by rw [size_len]; exact hs)
  generalize Lib.trimB s.data.toList 32 = u at hb2 hj2 hh hl2 ⊢
  clear HB1 HJ1 c1 f1 c0 f0
  generalize w1.setCell ⟨b, 0, none⟩ (.string ⟨u.toArray⟩) = w2 at hb2 hj2 ⊢
  obtain ⟨U, hU⟩ : ∃ U : ByteArray, (⟨u.toArray⟩ : ByteArray) = U := ⟨_, rfl⟩
  have hUl : U.data.toList = u := by rw [← hU]
  rw [hU] at hb2 ⊢
  rw [← hUl] at hj2 hh hl2
  rw [size_len] at hl2 hj2
  clear hU hUl
  have HU := Kept.mk (And.intro hh (And.intro hl2 (And.intro hb2 hj2)))
  clear hb2 hj2 hh hl2
  gi_loopw [3] (fun _ wr => ∃ S : ByteArray, Kept (S.data.toList.head? ≠ some 32 ∧ S.size ≤ 65536 ∧ Boxed wr b 9 (.string S) ∧ J S.size (Pln.wordsL S.data.toList) wr)) (fun _ wr => strAt b wr)
  case atStart => exact ⟨U, HU⟩
  case round =>
    clear HU
    obtain ⟨S, HV⟩ := hrel
    obtain ⟨h1, h2, h3, h4⟩ := HV.out
    have c3 := h3.cell
    have f3 := h3.frozen
    by_cases h0 : S.size = 0
    · have hl : S.data.toList = [] := List.length_eq_zero_iff.1 (by rw [size_len]; exact h0)
      rw [hl, h0] at h4
      have hem : S.toList.isEmpty = true := by rw [ByteArray.toList_eq, hl]; rfl
      have HX := Kept.mk h4
      clear h1 h2 h3 h4 HV hl h0
      gi_wp2
      go_end0
      exact ⟨⟨_, rfl⟩, .inl HX.out⟩
    · have h0 : 0 < S.size := by omega
      have hem : S.toList.isEmpty = false := by
        rw [ByteArray.toList_eq]
        have := size_len S
        cases hl : S.data.toList with
        | nil => rw [hl] at this; simp at this; omega
        | cons _ _ => rfl
      have z0 : (0 : Int) < (S.size : Int) := by omega
      have hx := byte_get S 0 h0
      have n32 : S[0] ≠ 32 := by
        intro e
        apply h1
        rw [List.head?_eq_getElem?, hx, e]
      have hbl := Pln.idx_blank S.data.toList
      obtain ⟨m, hm⟩ : ∃ m, (S.data.toList.takeWhile (· != 32)).length = m := ⟨_, rfl⟩
      rw [hm] at hbl
      have cI := (callsIn_wide (n := 4).2 (Any.strings_IndexByte Tryz.lays137 (S ++ ⟨#[32]⟩) 32 wr)).mono (R' := fun e w' => e = .returned (.int .i64 (m : Int)) ∧ wr = w') (by
        rintro e w' ⟨he, hw⟩
        refine ⟨?_, hw.symm⟩
        rw [he]
        have : (S ++ ⟨#[32]⟩ : ByteArray).data.toList = S.data.toList ++ [32] := by simp
        rw [this]
        show Ending.returned (.int .i64 (Lib.indexByte (S.data.toList ++ [32]) 32)) = _
        rw [hbl])
      have CI := Kept.mk cI
      have HL := Kept.mk h2
      have hbig : ¬ 9223372036854775807 < S.size + 1 := by omega
      have HR3 := Kept.mk h3
      clear cI hbl
      by_cases q34 : S[0].toNat = 34
      · have e34 : ((S[0].toNat : Nat) : Int) = 34 := by omega
        have hc : S[0] = 34 := UInt8.toNat_inj.1 (by rw [q34]; rfl)
        rw [hc] at hx
        have HXX := Kept.mk hx
        have HH := Kept.mk (And.intro h3 h4)
        have HG := Kept.mk (fun (k : Nat) (h : k < S.size) => byte_get S k h)
        have hsl := size_len S
        clear h1 h2 h3 h4 HV n32 hx hc hm q34
        gi_wp2_with (first
          | (refine ⟨trivial, ?_⟩; gi_at_call 68; refine CI.out.mono ?_; rintro e w9 ⟨rfl, rfl⟩)
          | (gi_at_call 68; refine CI.out.mono ?_; rintro e w9 ⟨rfl, rfl⟩))
        gi_loopw [3] (fun e wx => ∃ m : Nat, e = .int .i64 m ∧ 1 ≤ m ∧ m ≤ S.size + 1 ∧ Kept ((Pln.qE (S.data.toList.drop m)).map (· + (m - 1)) = Pln.qE (S.data.toList.drop 1)) ∧ wr = wx) (fun e _ => S.size + 1 - (intOf e).toNat)
        case atStart => exact ⟨1, by go_num, by omega, by omega, ⟨by simp⟩, rfl⟩
        case round =>
          obtain ⟨m, rfl, m1, m2, HQ, rfl⟩ := hrel
          have m0 : (0 : Int) ≤ (m : Int) := by omega
          have HL2 := HL.out
          by_cases hml : m < S.size
          · have m3 : (m : Int) < (S.size : Int) := by omega
            have hy := HG.out m hml
            by_cases q34 : S[m].toNat = 34
            · have f34 : (((S[m].toNat : Nat) : Int) != 34) = false := by simp; omega
              have hc : S[m] = 34 := UInt8.toNat_inj.1 (by rw [q34]; rfl)
              rw [hc] at hy
              have hq := HQ.out
              rw [Pln.qE_stop hy] at hq
              have hq : Pln.qE (S.data.toList.drop 1) = some (m - 1) := by rw [← hq]; simp
              have hkm : 0 + (m - 1) + 2 = m + 1 := by omega
              have m4 : ¬ (S.size : Int) < (m : Int) + 1 := by omega
              clear hy hc q34 HQ
              by_cases hend : m + 1 < S.size ∧ S.data.toList[m + 1]? ≠ some 32
              · obtain ⟨hend, hns⟩ := hend
                have m5 : (m : Int) + 1 < (S.size : Int) := by omega
                have hz := HG.out (m + 1) hend
                have g32 : S[m + 1].toNat ≠ 32 := by
                  intro e
                  apply hns
                  rw [hz, show S[m + 1] = 32 from UInt8.toNat_inj.1 (by rw [e]; rfl)]
                have e5 : (((S[m + 1].toNat : Nat) : Int) != 32) = true := by simp; omega
                have n5 : S[m + 1] ≠ 32 := fun e => g32 (by rw [e]; rfl)
                have hj := HH.out.2
                rw [← List.drop_zero (l := S.data.toList), Pln.words_bad HXX.out (fun n hn => ⟨S[m + 1], by rw [hq] at hn; cases hn; rw [hkm]; exact hz, n5⟩)] at hj
                obtain ⟨fn, tmps, assign, body, hy, hR⟩ := HN.out _ wr hj
                clear hz g32 hq hkm n5 hns hj hsl
                gi_wp2
                refine hR.mono ?_
                rintro e W3 ⟨z, rfl, hJx3⟩
                gi_wp2
                refine bodyPost_ret (results_none rfl _ _ _) rfl ?_
                exact ⟨⟨_, rfl⟩, .inr hJx3⟩
              · have hend2 : 0 + (m - 1) + 2 = S.data.toList.length ∨ S.data.toList[0 + (m - 1) + 2]? = some 32 := by
                  rw [hkm]
                  by_cases h : m + 1 < S.size
                  · exact .inr (Decidable.byContradiction fun e => hend ⟨h, e⟩)
                  · exact .inl (by omega)
                have hwq := Pln.words_quoted HXX.out hq hend2
                rw [hkm, show m - 1 + 2 = m + 1 by omega, List.drop_zero] at hwq
                have hj := HH.out.2
                rw [hwq] at hj
                have hj := HM.out _ (S.size - (m + 1) + 1) _ _ (by omega) hj
                have y1 : (0 : Int) ≤ (m : Int) + 1 := by omega
                have y2 : (m : Int) + 1 ≤ (S.size : Int) := by omega
                have hxe : S.extract 0 (m + 1) = ⟨(S.data.toList.take (m + 1)).toArray⟩ := by rw [extract_drop]; rfl
                have hne : S.data.toList.take (m + 1) ≠ [] := by
                  intro e
                  have := congrArg List.length e
                  rw [List.length_take, size_len] at this
                  change min (m + 1) S.size = 0 at this
                  omega
                obtain ⟨fn, tmps, assign, body, hy, hR2⟩ := HY.out _ _ _ wr _ hne hj HH.out.1
                generalize (S.data.toList.take (m + 1)) = X at hxe hy
                have HZ : Kept (m + 1 < S.size → S.data.toList[m + 1]? = some 32) := ⟨fun h => Decidable.byContradiction fun e => hend ⟨h, e⟩⟩
                clear hwq hq hkm hend hend2 hj hne hsl
                by_cases hend : m + 1 < S.size
                · have m5 : (m : Int) + 1 < (S.size : Int) := by omega
                  have hz := HG.out (m + 1) hend
                  rw [HZ.out hend] at hz
                  have e5 : (((S[m + 1].toNat : Nat) : Int) != 32) = false := by
                    have : S[m + 1] = 32 := (Option.some.inj hz).symm
                    rw [this]
                    rfl
                  clear hz
                  gi_wp2
                  refine hR2.mono ?_
                  rintro e W3 ⟨z, rfl, HX⟩
                  rcases HX.out with ⟨rfl, hJ3, hB3⟩ | ⟨rfl, hJx3⟩
                  · have c4 := hB3.cell
                    have f4 := hB3.frozen
                    have HJ3 := Kept.mk hJ3
                    have HB3 := Kept.mk hB3
                    clear hJ3 hB3 HX hR2 hy c3 f3
                    gi_wp2_with (first
                      | (refine ⟨trivial, ?_⟩; gi_at_call 67; refine (callsIn_wide.2 (Any.strings_TrimLeft_one Tryz.lays161 _ 32 (by decide) _)).mono ?_; rintro e w9 ⟨rfl, rfl⟩)
                      | (gi_at_call 67; refine (callsIn_wide.2 (Any.strings_TrimLeft_one Tryz.lays161 _ 32 (by decide) _)).mono ?_; rintro e w9 ⟨rfl, rfl⟩))
                    go_roundw
                    case rel => exact next_rel HJ HM HB3 HJ3 (by omega) HL.out
                    case measure => exact next_meas HB3 HR3.out (by omega) h0
                  · gi_wp2
                    refine bodyPost_ret (results_none rfl _ _ _) rfl ?_
                    exact ⟨⟨_, rfl⟩, .inr hJx3⟩
                · have m5 : ¬ (m : Int) + 1 < (S.size : Int) := by omega
                  gi_wp2
                  refine hR2.mono ?_
                  rintro e W3 ⟨z, rfl, HX⟩
                  rcases HX.out with ⟨rfl, hJ3, hB3⟩ | ⟨rfl, hJx3⟩
                  · have c4 := hB3.cell
                    have f4 := hB3.frozen
                    have HJ3 := Kept.mk hJ3
                    have HB3 := Kept.mk hB3
                    clear hJ3 hB3 HX hR2 hy c3 f3
                    gi_wp2_with (first
                      | (refine ⟨trivial, ?_⟩; gi_at_call 67; refine (callsIn_wide.2 (Any.strings_TrimLeft_one Tryz.lays161 _ 32 (by decide) _)).mono ?_; rintro e w9 ⟨rfl, rfl⟩)
                      | (gi_at_call 67; refine (callsIn_wide.2 (Any.strings_TrimLeft_one Tryz.lays161 _ 32 (by decide) _)).mono ?_; rintro e w9 ⟨rfl, rfl⟩))
                    go_roundw
                    case rel => exact next_rel HJ HM HB3 HJ3 (by omega) HL.out
                    case measure => exact next_meas HB3 HR3.out (by omega) h0
                  · gi_wp2
                    refine bodyPost_ret (results_none rfl _ _ _) rfl ?_
                    exact ⟨⟨_, rfl⟩, .inr hJx3⟩
            · have f34 : (((S[m].toNat : Nat) : Int) != 34) = true := by simp; omega
              have n34 : S[m] ≠ 34 := fun e => q34 (by rw [e]; rfl)
              by_cases q92 : S[m].toNat = 92
              · have e92 : ((S[m].toNat : Nat) : Int) = 92 := by omega
                have hc : S[m] = 92 := UInt8.toNat_inj.1 (by rw [q92]; rfl)
                rw [hc] at hy
                have HQ2 : Kept ((Pln.qE (S.data.toList.drop (m + 2))).map (· + (m + 2 - 1)) = Pln.qE (S.data.toList.drop 1)) := ⟨by rw [← HQ.out, Pln.qE_two hy, Option.map_map]; congr 1; funext x; simp; omega⟩
                clear hy hc q92 n34 q34
                gi_wp2
                go_round
                case rel => exact ⟨m + 2, by go_num, by omega, by omega, HQ2, trivial⟩
                case measure => simp [intOf]; omega
              · have e92 : (((S[m].toNat : Nat) : Int) == 92) = false := by simp; omega
                have n92 : S[m] ≠ 92 := fun e => q92 (by rw [e]; rfl)
                have HQ2 : Kept ((Pln.qE (S.data.toList.drop (m + 1))).map (· + (m + 1 - 1)) = Pln.qE (S.data.toList.drop 1)) := ⟨by rw [← HQ.out, Pln.qE_next hy n34 n92, Option.map_map]; congr 1; funext x; simp; omega⟩
                clear hy q92 n34 q34 n92
                gi_wp2
                go_round
                case rel => exact ⟨m + 1, by go_num, by omega, by omega, HQ2, trivial⟩
                case measure => simp [intOf]; omega
          · have hq := HQ.out
            rw [Pln.qE_end (by omega)] at hq
            have hj := HH.out.2
            rw [← List.drop_zero (l := S.data.toList), Pln.words_bad HXX.out (fun n hn => by rw [hn] at hq; cases hq)] at hj
            obtain ⟨fn, tmps, assign, body, hy, hR⟩ := HN.out _ wr hj
            have m3 : (S.size : Int) < (m : Int) + 1 := by omega
            have m4 : ¬ (m : Int) < (S.size : Int) := by omega
            clear hq HQ hj
            gi_wp2
            refine hR.mono ?_
            rintro e W3 ⟨z, rfl, hJx3⟩
            gi_wp2
            refine bodyPost_ret (results_none rfl _ _ _) rfl ?_
            exact ⟨⟨_, rfl⟩, .inr hJx3⟩
      · have e34 : (((S[0].toNat : Nat) : Int) == 34) = false := by simp; omega
        have n34 : S[0] ≠ 34 := fun e => q34 (by rw [e]; rfl)
        have hw := Pln.words_first hx n32 n34
        have hlen : m ≤ S.size := by rw [← hm, ← size_len S]; exact (List.takeWhile_sublist _).length_le
        have hpos : 0 < m := by
          rw [← hm]
          have := size_len S
          cases hl : S.data.toList with
          | nil => rw [hl] at this; simp at this; omega
          | cons d t =>
            rw [hl] at hx
            simp only [List.getElem?_cons_zero, Option.some.injEq] at hx
            rw [List.takeWhile_cons, if_pos (by rw [hx]; simpa using n32)]
            simp
        rw [hm] at hw
        rw [hw] at h4
        have h4 := HM.out _ (S.size - m + 1) _ _ (by omega) h4
        have y1 : (0 : Int) ≤ (m : Int) := by omega
        have y2 : (m : Int) ≤ (S.size : Int) := by omega
        have hxe : S.extract 0 m = ⟨(S.data.toList.take m).toArray⟩ := by rw [extract_drop]; rfl
        have hne : S.data.toList.take m ≠ [] := by
          intro e
          have := congrArg List.length e
          rw [List.length_take, size_len] at this
          change min m S.size = 0 at this
          omega
        obtain ⟨fn, tmps, assign, body, hy, hR2⟩ := HY.out _ _ _ wr _ hne h4 h3
        generalize (S.data.toList.take m) = X at hxe hy
        clear h1 h2 h3 h4 HV n32 hx hm q34 n34 hw hne
        gi_wp2_with (first
          | (refine ⟨trivial, ?_⟩; gi_at_call 68; refine CI.out.mono ?_; rintro e w9 ⟨rfl, rfl⟩)
          | (gi_at_call 68; refine CI.out.mono ?_; rintro e w9 ⟨rfl, rfl⟩))
        refine hR2.mono ?_
        rintro e W3 ⟨z, rfl, HX⟩
        rcases HX.out with ⟨rfl, hJ3, hB3⟩ | ⟨rfl, hJx3⟩
        · have c4 := hB3.cell
          have f4 := hB3.frozen
          have HJ3 := Kept.mk hJ3
          have HB3 := Kept.mk hB3
          clear hJ3 hB3 HX hR2 hy c3 f3
          gi_wp2_with (first
            | (refine ⟨trivial, ?_⟩; gi_at_call 67; refine (callsIn_wide.2 (Any.strings_TrimLeft_one Tryz.lays161 _ 32 (by decide) _)).mono ?_; rintro e w9 ⟨rfl, rfl⟩)
            | (gi_at_call 67; refine (callsIn_wide.2 (Any.strings_TrimLeft_one Tryz.lays161 _ 32 (by decide) _)).mono ?_; rintro e w9 ⟨rfl, rfl⟩))
          go_roundw
          case rel => exact next_rel HJ HM HB3 HJ3 (by omega) HL.out
          case measure => exact next_meas HB3 HR3.out (by omega) h0
        · gi_wp2
          refine bodyPost_ret (results_none rfl _ _ _) rfl ?_
          exact ⟨⟨_, rfl⟩, .inr hJx3⟩
end Go.Proofs.YtakccaldcolbmaaGreatDoor.Wln
