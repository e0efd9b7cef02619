/- The walk over the document's words (chapter 31). -/
import Derived.Test.YtakccaldcolbmaaGreatDoorLinesQ
import Derived.Test.YtakccaldcolbmaaGreatDoorKitBytes
import Derived.Laws.AppendOwn
import Derived.Lib.SmallJoins
import Derived.BigQuiet
import Derived.Maps.AppendAt
namespace Go.Proofs.YtakccaldcolbmaaGreatDoor.Wln
open Go Go.RowKit Go.Proofs.YtakccaldcolbmaaGreatDoor.Kb

theorem size_len (s : ByteArray) : s.data.toList.length = s.size := by rw [Array.length_toList]; rfl
theorem byte_get (s : ByteArray) (k : Nat) (h : k < s.size) : s.data.toList[k]? = some s[k] := by
  have hlt : k < s.data.toList.length := by rw [Array.length_toList]; exact h
  rw [List.getElem?_eq_getElem hlt, Array.getElem_toList]
  rfl
theorem extract_drop (s : ByteArray) (a b : Nat) : s.extract a b = ⟨((s.data.toList.drop a).take (b - a)).toArray⟩ := by
  rw [← Lib.extract_data]
/-- texts as cells -/
def stC (L : List (List UInt8)) : List Value := L.map fun x => .string ⟨x.toArray⟩
theorem stC_append (L M : List (List UInt8)) : stC (L ++ M) = stC L ++ stC M := by simp [stC]
theorem infoT : (Tryz.prog.info? 9).map (fun i => (i.zero, i.size, i.bytes)) = some (some (.string ⟨#[]⟩), 1, 16) := by kernel_rfl
set_option maxRecDepth 100000 in
set_option maxHeartbeats 4000000 in
theorem refwords_any (s : ByteArray) (w : World) (hs : s.size ≤ 1000000) :
    Calls Tryz.prog 59 #[.string s] w fun e w' => (match Pln.wordsL s.data.toList with
      | some L => ∃ v, e = .returned (.tuple #[v, .bool true]) ∧ w'.ownsRow w.heap.size 9 1 v L.length (stC L) ∧ L.length ≤ s.size
      | none => e = .returned (.tuple #[.slice none 0 0, .bool false])) ∧ Below w.heap.size w w' := by
  obtain ⟨i0', hi, hz0, hz1, hz2⟩ := info_parts infoT
  have hl := size_len s
  have HX := Kept.mk (fun k h => byte_get s k h)
  have HT : Kept ((Pln.wordsL (s.data.toList.drop 0)).map (([] : List (List UInt8)) ++ ·) = Pln.wordsL s.data.toList) := ⟨by rw [List.drop_zero]; cases Pln.wordsL s.data.toList <;> rfl⟩
  generalize hTT : Pln.wordsL s.data.toList = T at HT ⊢
  generalize hSS : s.data.toList = S at HX hl HT
  have HS := Kept.mk hSS
  clear hTT hSS
  go_enter Tryz.func59, Tryz.ntmps59
  go_wp2
  go_loopw [4, 5, 6] (fun v at' _e wx => ∃ (k : Nat) (M : List (List UInt8)), at' = .int .i64 k ∧ k ≤ s.size ∧ M.length ≤ k ∧ Kept ((Pln.wordsL (S.drop k)).map (M ++ ·) = T) ∧ Kept (wx.ownsRow w.heap.size 9 1 v M.length (stC M)) ∧ Kept (Below w.heap.size w wx)) (fun _ at' _ _ => s.size - (intOf at').toNat)
  case atStart => exact ⟨0, [], rfl, by omega, by simp, HT, ⟨World.ownsRow_nil _ _ _ _⟩, ⟨Below.refl _ _⟩⟩
  case round =>
    clear HT
    obtain ⟨k, M, rfl, hk, hM, HT, HO, HB⟩ := hrel
    have k0 : (0 : Int) ≤ (k : Int) := by omega
    have s3 := HB.out.size
    by_cases hlt : k < s.size
    · have k1 : (k : Int) < (s.size : Int) := by omega
      have hx := HX.out k hlt
      by_cases h32 : s[k].toNat = 32
      · have e32 : ((s[k].toNat : Nat) : Int) = 32 := by omega
        have hc : s[k] = 32 := UInt8.toNat_inj.1 (by rw [h32]; rfl)
        rw [hc] at hx
        have HT2 : Kept ((Pln.wordsL (S.drop (k + 1))).map (M ++ ·) = T) := ⟨by rw [← Pln.words_skip hx]; exact HT.out⟩
        clear hx hc h32
        go_wp2
        go_roundw
        case rel => exact ⟨k + 1, M, by go_num, by omega, by omega, HT2, HO, HB⟩
        case measure => simp [intOf]; omega
      · have e32 : ((s[k].toNat : Nat) : Int) ≠ 32 := by omega
        have b32 : (((s[k].toNat : Nat) : Int) == 32) = false := by simpa using e32
        have n32 : s[k] ≠ 32 := fun e => h32 (by rw [e]; rfl)
        by_cases h34 : s[k].toNat = 34
        · have e34 : ((s[k].toNat : Nat) : Int) = 34 := by omega
          have hc : s[k] = 34 := UInt8.toNat_inj.1 (by rw [h34]; rfl)
          rw [hc] at hx
          have HXX := Kept.mk hx
          clear hx hc n32 h32 h34
          go_wp2
          go_loopw [6] (fun e wx => ∃ m : Nat, e = .int .i64 m ∧ k + 1 ≤ m ∧ m ≤ s.size + 1 ∧ Kept ((Pln.qE (S.drop m)).map (· + (m - (k + 1))) = Pln.qE (S.drop (k + 1))) ∧ wr = wx) (fun e _ => s.size + 1 - (intOf e).toNat)
          case atStart => exact ⟨k + 1, by go_num, by omega, by omega, ⟨by simp⟩, rfl⟩
          case round =>
            obtain ⟨m, rfl, m1, m2, HQ, rfl⟩ := hrel
            have m0 : (0 : Int) ≤ (m : Int) := by omega
            by_cases hml : m < s.size
            · have m3 : (m : Int) < (s.size : Int) := by omega
              have hy := HX.out m hml
              by_cases q34 : s[m].toNat = 34
              · have f34 : (((s[m].toNat : Nat) : Int) != 34) = false := by simp; omega
                have hc : s[m] = 34 := UInt8.toNat_inj.1 (by rw [q34]; rfl)
                rw [hc] at hy
                have hq := HQ.out
                rw [Pln.qE_stop hy] at hq
                have hq : Pln.qE (S.drop (k + 1)) = some (m - (k + 1)) := by rw [← hq]; simp
                have hkm : k + (m - (k + 1)) + 2 = m + 1 := by omega
                have m4 : ¬ (s.size : Int) < (m : Int) + 1 := by omega
                clear hy hc q34 HQ
                by_cases hend : m + 1 < s.size
                · have m5 : (m : Int) + 1 < (s.size : Int) := by omega
                  have hz := HX.out (m + 1) hend
                  by_cases g32 : s[m + 1].toNat = 32
                  · have e5 : (((s[m + 1].toNat : Nat) : Int) != 32) = false := by simp; omega
                    have hc : s[m + 1] = 32 := UInt8.toNat_inj.1 (by rw [g32]; rfl)
                    rw [hc] at hz
                    have hwq := Pln.words_quoted HXX.out hq (.inr (by rw [hkm]; exact hz))
                    rw [hkm, show m - (k + 1) + 2 = m + 1 - k by omega] at hwq
                    have HT2 : Kept ((Pln.wordsL (S.drop (m + 1))).map ((M ++ [(S.drop k).take (m + 1 - k)]) ++ ·) = T) := ⟨by rw [← HT.out, hwq, Option.map_map]; congr 1; funext x; simp⟩
                    clear hz hc g32 hwq hq hkm
                    have y1 : (k : Int) ≤ (m : Int) + 1 := by omega
                    have y2 : (m : Int) + 1 ≤ (s.size : Int) := by omega
                    go_wp2_with (at_builtin; refine wpList_append_own _ rfl (.tmp 71) (.tmp 76) 29 rfl w.heap.size 9 i0' (.string ⟨#[]⟩) 1 16 Tryz.underlying29 hi hz0 hz1 hz2 rfl (by decide) _ _ _ (by rfl) (HO.out.alloc _) ⟨wr.heap.size, 0, none⟩ 1 1 [.string (s.extract k (m + 1))] (by rfl) (by rfl) (cell_one_new _ _ _) (by intro u hu; simp at hu; subst hu; rfl) (by unfold maxLen; omega) (by omega) (by simp; omega) ?_; intro v' w5 hown5 hgrow5 _; have hb5 := Below.grown (HB.out.alloc s3 _) hgrow5 (by simp; omega) (fun q hq => (HO.out.lt q hq).1); have O5 := Kept.mk hown5; have B5 := Kept.mk hb5; clear hown5 hgrow5 hb5)
                    go_roundw
                    case rel => exact ⟨m + 1, M ++ [(S.drop k).take (m + 1 - k)], by go_num, by omega, by rw [List.length_append]; simp; omega, HT2, ⟨by rw [stC_append, List.length_append, show stC [(S.drop k).take (m + 1 - k)] = [.string (s.extract k (m + 1))] by rw [extract_drop, HS.out]; rfl]; exact O5.out⟩, B5⟩
                    case measure => simp [intOf]; omega
                  · have e5 : (((s[m + 1].toNat : Nat) : Int) != 32) = true := by simp; omega
                    have n5 : s[m + 1] ≠ 32 := fun e => g32 (by rw [e]; rfl)
                    have ht := HT.out
                    rw [Pln.words_bad HXX.out (fun n hn => ⟨s[m + 1], by rw [hq] at hn; cases hn; rw [hkm]; exact hz, n5⟩)] at ht
                    obtain rfl : T = none := by rw [← ht]; rfl
                    clear hz g32 hq hkm ht HT n5
                    go_wp2
                    go_ret2
                    exact ⟨rfl, HB.out⟩
                · have m5 : ¬ (m : Int) + 1 < (s.size : Int) := by omega
                  have hwq := Pln.words_quoted HXX.out hq (.inl (by omega))
                  rw [hkm, show m - (k + 1) + 2 = m + 1 - k by omega] at hwq
                  have HT2 : Kept ((Pln.wordsL (S.drop (m + 1))).map ((M ++ [(S.drop k).take (m + 1 - k)]) ++ ·) = T) := ⟨by rw [← HT.out, hwq, Option.map_map]; congr 1; funext x; simp⟩
                  clear hwq hq hkm hend
                  have y1 : (k : Int) ≤ (m : Int) + 1 := by omega
                  have y2 : (m : Int) + 1 ≤ (s.size : Int) := by omega
                  go_wp2_with (at_builtin; refine wpList_append_own _ rfl (.tmp 71) (.tmp 76) 29 rfl w.heap.size 9 i0' (.string ⟨#[]⟩) 1 16 Tryz.underlying29 hi hz0 hz1 hz2 rfl (by decide) _ _ _ (by rfl) (HO.out.alloc _) ⟨wr.heap.size, 0, none⟩ 1 1 [.string (s.extract k (m + 1))] (by rfl) (by rfl) (cell_one_new _ _ _) (by intro u hu; simp at hu; subst hu; rfl) (by unfold maxLen; omega) (by omega) (by simp; omega) ?_; intro v' w5 hown5 hgrow5 _; have hb5 := Below.grown (HB.out.alloc s3 _) hgrow5 (by simp; omega) (fun q hq => (HO.out.lt q hq).1); have O5 := Kept.mk hown5; have B5 := Kept.mk hb5; clear hown5 hgrow5 hb5)
                  go_roundw
                  case rel => exact ⟨m + 1, M ++ [(S.drop k).take (m + 1 - k)], by go_num, by omega, by rw [List.length_append]; simp; omega, HT2, ⟨by rw [stC_append, List.length_append, show stC [(S.drop k).take (m + 1 - k)] = [.string (s.extract k (m + 1))] by rw [extract_drop, HS.out]; rfl]; exact O5.out⟩, B5⟩
                  case measure => simp [intOf]; omega
              · have f34 : (((s[m].toNat : Nat) : Int) != 34) = true := by simp; omega
                have n34 : s[m] ≠ 34 := fun e => q34 (by rw [e]; rfl)
                by_cases q92 : s[m].toNat = 92
                · have e92 : ((s[m].toNat : Nat) : Int) = 92 := by omega
                  have hc : s[m] = 92 := UInt8.toNat_inj.1 (by rw [q92]; rfl)
                  rw [hc] at hy
                  have HQ2 : Kept ((Pln.qE (S.drop (m + 2))).map (· + (m + 2 - (k + 1))) = Pln.qE (S.drop (k + 1))) := ⟨by rw [← HQ.out, Pln.qE_two hy, Option.map_map]; congr 1; funext x; simp; omega⟩
                  clear hy hc q92 n34 q34
                  go_wp2
                  go_round
                  case rel => exact ⟨m + 2, by go_num, by omega, by omega, HQ2, trivial⟩
                  case measure => simp [intOf]; omega
                · have e92 : (((s[m].toNat : Nat) : Int) == 92) = false := by simp; omega
                  have n92 : s[m] ≠ 92 := fun e => q92 (by rw [e]; rfl)
                  have HQ2 : Kept ((Pln.qE (S.drop (m + 1))).map (· + (m + 1 - (k + 1))) = Pln.qE (S.drop (k + 1))) := ⟨by rw [← HQ.out, Pln.qE_next hy n34 n92, Option.map_map]; congr 1; funext x; simp; omega⟩
                  clear hy q92 n34 q34 n92
                  go_wp2
                  go_round
                  case rel => exact ⟨m + 1, by go_num, by omega, by omega, HQ2, trivial⟩
                  case measure => simp [intOf]; omega
            · have hq := HQ.out
              rw [Pln.qE_end (by omega)] at hq
              have ht := HT.out
              rw [Pln.words_bad HXX.out (fun n hn => by rw [hn] at hq; cases hq)] at ht
              obtain rfl : T = none := by rw [← ht]; rfl
              have m3 : (s.size : Int) < (m : Int) + 1 := by omega
              have m4 : ¬ (m : Int) < (s.size : Int) := by omega
              clear hq ht HT HQ
              go_wp2
              go_ret2
              exact ⟨rfl, HB.out⟩
        · have e34 : ((s[k].toNat : Nat) : Int) ≠ 34 := by omega
          have b34 : (((s[k].toNat : Nat) : Int) == 34) = false := by simpa using e34
          have n34 : s[k] ≠ 34 := fun e => h34 (by rw [e]; rfl)
          have HW := Kept.mk (fun m => Pln.words_word (m := m) hx n32 n34)
          clear hx h32 h34 n32 n34
          go_wp2
          go_loopw [6] (fun e wx => ∃ m : Nat, e = .int .i64 m ∧ k + 1 ≤ m ∧ m ≤ s.size ∧ Kept (∀ j, k < j → j < m → S[j]? ≠ some 32) ∧ wr = wx) (fun e _ => s.size - (intOf e).toNat)
          case atStart => exact ⟨k + 1, by go_num, by omega, by omega, ⟨fun j h1 h2 => by omega⟩, rfl⟩
          case round =>
            obtain ⟨m, rfl, m1, m2, HJ, rfl⟩ := hrel
            have m0 : (0 : Int) ≤ (m : Int) := by omega
            by_cases hml : m < s.size
            · have m3 : (m : Int) < (s.size : Int) := by omega
              have hy := HX.out m hml
              by_cases q32 : s[m].toNat = 32
              · have f32 : (((s[m].toNat : Nat) : Int) != 32) = false := by simp; omega
                have hc : s[m] = 32 := UInt8.toNat_inj.1 (by rw [q32]; rfl)
                rw [hc] at hy
                have hwq := HW.out m (by omega) (by omega) HJ.out (.inr hy)
                have HT2 : Kept ((Pln.wordsL (S.drop m)).map ((M ++ [(S.drop k).take (m - k)]) ++ ·) = T) := ⟨by rw [← HT.out, hwq, Option.map_map]; congr 1; funext x; simp⟩
                clear hwq hy hc q32 HW
                have y1 : (k : Int) ≤ (m : Int) := by omega
                have y2 : (m : Int) ≤ (s.size : Int) := by omega
                go_wp2_with (at_builtin; refine wpList_append_own _ rfl (.tmp 71) (.tmp 76) 29 rfl w.heap.size 9 i0' (.string ⟨#[]⟩) 1 16 Tryz.underlying29 hi hz0 hz1 hz2 rfl (by decide) _ _ _ (by rfl) (HO.out.alloc _) ⟨wr.heap.size, 0, none⟩ 1 1 [.string (s.extract k (m))] (by rfl) (by rfl) (cell_one_new _ _ _) (by intro u hu; simp at hu; subst hu; rfl) (by unfold maxLen; omega) (by omega) (by simp; omega) ?_; intro v' w5 hown5 hgrow5 _; have hb5 := Below.grown (HB.out.alloc s3 _) hgrow5 (by simp; omega) (fun q hq => (HO.out.lt q hq).1); have O5 := Kept.mk hown5; have B5 := Kept.mk hb5; clear hown5 hgrow5 hb5)
                go_roundw
                case rel => exact ⟨m, M ++ [(S.drop k).take (m - k)], by go_num, by omega, by rw [List.length_append]; simp; omega, HT2, ⟨by rw [stC_append, List.length_append, show stC [(S.drop k).take (m - k)] = [.string (s.extract k (m))] by rw [extract_drop, HS.out]; rfl]; exact O5.out⟩, B5⟩
                case measure => simp [intOf]; omega
              · have f32 : (((s[m].toNat : Nat) : Int) != 32) = true := by simp; omega
                have n32 : s[m] ≠ 32 := fun e => q32 (by rw [e]; rfl)
                have HJ2 : Kept (∀ j, k < j → j < m + 1 → S[j]? ≠ some 32) := ⟨fun j h1 h2 => by
                  by_cases e : j = m
                  · subst e; rw [hy]; simpa using n32
                  · exact HJ.out j h1 (by omega)⟩
                clear hy q32 n32
                go_wp2
                go_round
                case rel => exact ⟨m + 1, by go_num, by omega, by omega, HJ2, trivial⟩
                case measure => simp [intOf]; omega
            · obtain rfl : m = s.size := by omega
              have hwq := HW.out s.size (by omega) (by omega) HJ.out (.inl (by omega))
              have HT2 : Kept ((Pln.wordsL (S.drop s.size)).map ((M ++ [(S.drop k).take (s.size - k)]) ++ ·) = T) := ⟨by rw [← HT.out, hwq, Option.map_map]; congr 1; funext x; simp⟩
              clear hwq HW
              have y1 : (k : Int) ≤ (s.size : Int) := by omega
              go_wp2_with (at_builtin; refine wpList_append_own _ rfl (.tmp 71) (.tmp 76) 29 rfl w.heap.size 9 i0' (.string ⟨#[]⟩) 1 16 Tryz.underlying29 hi hz0 hz1 hz2 rfl (by decide) _ _ _ (by rfl) (HO.out.alloc _) ⟨wr.heap.size, 0, none⟩ 1 1 [.string (s.extract k (s.size))] (by rfl) (by rfl) (cell_one_new _ _ _) (by intro u hu; simp at hu; subst hu; rfl) (by unfold maxLen; omega) (by omega) (by simp; omega) ?_; intro v' w5 hown5 hgrow5 _; have hb5 := Below.grown (HB.out.alloc s3 _) hgrow5 (by simp; omega) (fun q hq => (HO.out.lt q hq).1); have O5 := Kept.mk hown5; have B5 := Kept.mk hb5; clear hown5 hgrow5 hb5)
              go_roundw
              case rel => exact ⟨s.size, M ++ [(S.drop k).take (s.size - k)], by go_num, by omega, by rw [List.length_append]; simp; omega, HT2, ⟨by rw [stC_append, List.length_append, show stC [(S.drop k).take (s.size - k)] = [.string (s.extract k (s.size))] by rw [extract_drop, HS.out]; rfl]; exact O5.out⟩, B5⟩
              case measure => simp [intOf]; omega
    · obtain rfl : k = s.size := by omega
      have ht := HT.out
      rw [Pln.words_end (by omega)] at ht
      obtain rfl : T = some M := by rw [← ht]; simp
      clear ht HT
      go_wp2
      go_ret2
      exact ⟨⟨_, rfl, HO.out⟩, HB.out⟩
end Go.Proofs.YtakccaldcolbmaaGreatDoor.Wln
