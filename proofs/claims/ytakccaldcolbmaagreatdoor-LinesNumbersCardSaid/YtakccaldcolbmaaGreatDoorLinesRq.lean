/- The walk over the document's Quote (chapter 31). -/
import Derived.Test.YtakccaldcolbmaaGreatDoorLinesQu
import Derived.Test.YtakccaldcolbmaaGreatDoorLinesRefT
import Derived.Deep.RegionLaw
import Derived.Deep.AppendLies
import Derived.RangeFuncRecord
namespace Go.Proofs.YtakccaldcolbmaaGreatDoor.Wln
open Go Go.RowKit Go.Proofs.YtakccaldcolbmaaGreatDoor.Kb

theorem cells_new (w : World) (l : List Value) (t : TypeId) : ∀ j u, l[j]? = some u → (w.alloc (.cells l.toArray t)).cell? ((⟨w.heap.size, 0, none⟩ : Addr).add j) = some u := by
  intro j u hj
  have hadd : (⟨w.heap.size, 0, none⟩ : Addr).add j = ⟨w.heap.size, j, none⟩ := by unfold Addr.add; split <;> simp_all
  rw [hadd, cell_of_row _ w.heap.size j _ _ _ (World.alloc_heap_new w _)]
  simpa using hj
theorem own_lit (w : World) (l : List UInt8) (hl : l.length ≤ 1000) : (w.alloc (.cells (bcN l).toArray 5)).ownsRow w.heap.size 5 1 (.slice (some ⟨w.heap.size, 0, none⟩) l.length l.length) l.length (bcN l) := by
  refine ⟨by simp [bcN], .inr ⟨w.heap.size, l.length, (bcN l).toArray, rfl, Nat.le_refl _, World.alloc_heap_new w _, Nat.le_refl _, by unfold maxLen; omega, by simp [bcN], by rw [List.take_of_length_le (by simp [bcN])]⟩⟩
theorem hex4 {n m : Nat} (hn : n < (⟨#[48, 49, 50, 51, 52, 53, 54, 55, 56, 57, 97, 98, 99, 100, 101, 102]⟩ : ByteArray).size) (hm : m < (⟨#[48, 49, 50, 51, 52, 53, 54, 55, 56, 57, 97, 98, 99, 100, 101, 102]⟩ : ByteArray).size) :
    bcN [92, 120, Pln.hexC n, Pln.hexC m] = [.int .u8 92, .int .u8 120, .int .u8 (((⟨#[48, 49, 50, 51, 52, 53, 54, 55, 56, 57, 97, 98, 99, 100, 101, 102]⟩ : ByteArray)[n]'hn).toNat : Int), .int .u8 (((⟨#[48, 49, 50, 51, 52, 53, 54, 55, 56, 57, 97, 98, 99, 100, 101, 102]⟩ : ByteArray)[m]'hm).toNat : Int)] := by
  rw [hex_get n hn, hex_get m hm]
  rfl
set_option maxRecDepth 100000 in
set_option maxHeartbeats 8000000 in
theorem refQuote_any (s : ByteArray) (w : World) (hs : s.size ≤ 100000) : Calls Tryz.prog 12 #[.string s] w fun e w' => e = .returned (.string ⟨(Pln.quoL s.data.toList).toArray⟩) ∧ Below w.heap.size w w' := by
  obtain ⟨i0', hi, hz0, hz1, hz2⟩ := info_parts infoY
  have hl := size_len s
  have HX := Kept.mk (fun k h => byte_get s k h)
  obtain ⟨R, hR⟩ : ∃ R, Pln.quoL s.data.toList = R := ⟨_, rfl⟩
  rw [hR]
  have HR := Kept.mk hR
  generalize hSS : s.data.toList = S at HX hl HR
  clear hR hSS
  have O0 := Kept.mk (own_lit w [34] (by decide))
  have B0 : Kept (Below w.heap.size w (w.alloc (.cells (bcN [34]).toArray 5))) := ⟨(Below.refl _ _).alloc (Nat.le_refl _) _⟩
  go_enter Tryz.func12, Tryz.ntmps12
  go_wp2
  go_loopw [3, 4, 5] (fun v i _ wx => ∃ k : Nat, i = .int .i64 k ∧ k ≤ s.size ∧ Kept (wx.ownsRow w.heap.size 5 1 v (34 :: (S.take k).flatMap Pln.quoC).length (bcN (34 :: (S.take k).flatMap Pln.quoC))) ∧ Kept (Below w.heap.size w wx)) (fun _ i _ _ => s.size - (intOf i).toNat)
  case atStart => exact ⟨0, rfl, by omega, ⟨O0.out⟩, ⟨B0.out⟩⟩
  case round =>
    clear O0 B0
    obtain ⟨k, rfl, hk, HO, HB⟩ := hrel
    have k0 : (0 : Int) ≤ (k : Int) := by omega
    have s3 := HB.out.size
    have hal : (34 :: (S.take k).flatMap Pln.quoC).length ≤ 4 * k + 1 := by
      have := quo_len (S.take k)
      rw [List.length_cons]
      rw [List.length_take] at this
      omega
    by_cases hlt : k < s.size
    · have k1 : (k : Int) < (s.size : Int) := by omega
      have hx := HX.out k hlt
      have hst := acc_step hx
      have HST := Kept.mk hst
      generalize (34 :: (S.take k).flatMap Pln.quoC) = acc at HST HO hal
      clear hst hx
      have hc := s[k].toNat_lt
      generalize hcc : s[k] = c at HST hc
      have hac : acc.length ≤ 400001 := by omega
      by_cases d34 : c.toNat = 34
      · have g34 : ((c.toNat : Nat) : Int) = 34 := by omega
        have hd : c = 34 := UInt8.toNat_inj.1 (by rw [d34]; rfl)
        subst hd
        go_wp2_with (at_builtin; refine wpList_append_own _ rfl (.tmp 27) (.tmp 29) 46 rfl w.heap.size 5 i0' (.int .u8 0) 1 1 Tryz.underlying46 hi hz0 hz1 hz2 rfl (by decide) _ acc.length _ (by rfl) (HO.out.alloc _) ⟨wr.heap.size, 0, none⟩ 2 2 [.int .u8 92, .int .u8 34] (by rfl) (by rfl) (cells_new _ _ _) (by intro u hu; simp at hu; first | (subst hu; rfl) | (rcases hu with rfl | rfl <;> rfl)) (by unfold maxLen; omega) (by omega) (by simp; omega) ?_; intro v' w5 hown5 hgrow5 _; have hb5 := Below.grown (HB.out.alloc s3 _) hgrow5 (by simp; omega) (fun q hq => (HO.out.lt q hq).1); have O5 := Kept.mk hown5; have B5 := Kept.mk hb5; clear hown5 hgrow5 hb5)
        go_roundw
        case rel => exact ⟨k + 1, by go_num, by omega, ⟨by rw [HST.out, show Pln.quoC 34 = [92, 34] by decide, bcN_append, List.length_append]; exact O5.out⟩, B5⟩
        case measure => simp [intOf]; omega
      have g34 : (((c.toNat : Nat) : Int) == 34) = false := by simp; omega
      by_cases d92 : c.toNat = 92
      · have g92 : ((c.toNat : Nat) : Int) = 92 := by omega
        have hd : c = 92 := UInt8.toNat_inj.1 (by rw [d92]; rfl)
        subst hd
        go_wp2_with (at_builtin; refine wpList_append_own _ rfl (.tmp 27) (.tmp 29) 46 rfl w.heap.size 5 i0' (.int .u8 0) 1 1 Tryz.underlying46 hi hz0 hz1 hz2 rfl (by decide) _ acc.length _ (by rfl) (HO.out.alloc _) ⟨wr.heap.size, 0, none⟩ 2 2 [.int .u8 92, .int .u8 92] (by rfl) (by rfl) (cells_new _ _ _) (by intro u hu; simp at hu; first | (subst hu; rfl) | (rcases hu with rfl | rfl <;> rfl)) (by unfold maxLen; omega) (by omega) (by simp; omega) ?_; intro v' w5 hown5 hgrow5 _; have hb5 := Below.grown (HB.out.alloc s3 _) hgrow5 (by simp; omega) (fun q hq => (HO.out.lt q hq).1); have O5 := Kept.mk hown5; have B5 := Kept.mk hb5; clear hown5 hgrow5 hb5)
        go_roundw
        case rel => exact ⟨k + 1, by go_num, by omega, ⟨by rw [HST.out, show Pln.quoC 92 = [92, 92] by decide, bcN_append, List.length_append]; exact O5.out⟩, B5⟩
        case measure => simp [intOf]; omega
      have g92 : (((c.toNat : Nat) : Int) == 92) = false := by simp; omega
      by_cases d10 : c.toNat = 10
      · have g10 : ((c.toNat : Nat) : Int) = 10 := by omega
        have hd : c = 10 := UInt8.toNat_inj.1 (by rw [d10]; rfl)
        subst hd
        go_wp2_with (at_builtin; refine wpList_append_own _ rfl (.tmp 34) (.tmp 35) 46 rfl w.heap.size 5 i0' (.int .u8 0) 1 1 Tryz.underlying46 hi hz0 hz1 hz2 rfl (by decide) _ acc.length _ (by rfl) (HO.out.alloc _) ⟨wr.heap.size, 0, none⟩ 2 2 [.int .u8 92, .int .u8 110] (by rfl) (by rfl) (cells_new _ _ _) (by intro u hu; simp at hu; first | (subst hu; rfl) | (rcases hu with rfl | rfl <;> rfl)) (by unfold maxLen; omega) (by omega) (by simp; omega) ?_; intro v' w5 hown5 hgrow5 _; have hb5 := Below.grown (HB.out.alloc s3 _) hgrow5 (by simp; omega) (fun q hq => (HO.out.lt q hq).1); have O5 := Kept.mk hown5; have B5 := Kept.mk hb5; clear hown5 hgrow5 hb5)
        go_roundw
        case rel => exact ⟨k + 1, by go_num, by omega, ⟨by rw [HST.out, show Pln.quoC 10 = [92, 110] by decide, bcN_append, List.length_append]; exact O5.out⟩, B5⟩
        case measure => simp [intOf]; omega
      have g10 : (((c.toNat : Nat) : Int) == 10) = false := by simp; omega
      by_cases d9 : c.toNat = 9
      · have g9 : ((c.toNat : Nat) : Int) = 9 := by omega
        have hd : c = 9 := UInt8.toNat_inj.1 (by rw [d9]; rfl)
        subst hd
        go_wp2_with (at_builtin; refine wpList_append_own _ rfl (.tmp 40) (.tmp 41) 46 rfl w.heap.size 5 i0' (.int .u8 0) 1 1 Tryz.underlying46 hi hz0 hz1 hz2 rfl (by decide) _ acc.length _ (by rfl) (HO.out.alloc _) ⟨wr.heap.size, 0, none⟩ 2 2 [.int .u8 92, .int .u8 116] (by rfl) (by rfl) (cells_new _ _ _) (by intro u hu; simp at hu; first | (subst hu; rfl) | (rcases hu with rfl | rfl <;> rfl)) (by unfold maxLen; omega) (by omega) (by simp; omega) ?_; intro v' w5 hown5 hgrow5 _; have hb5 := Below.grown (HB.out.alloc s3 _) hgrow5 (by simp; omega) (fun q hq => (HO.out.lt q hq).1); have O5 := Kept.mk hown5; have B5 := Kept.mk hb5; clear hown5 hgrow5 hb5)
        go_roundw
        case rel => exact ⟨k + 1, by go_num, by omega, ⟨by rw [HST.out, show Pln.quoC 9 = [92, 116] by decide, bcN_append, List.length_append]; exact O5.out⟩, B5⟩
        case measure => simp [intOf]; omega
      have g9 : (((c.toNat : Nat) : Int) == 9) = false := by simp; omega
      have n34 : ¬ (c = 34 ∨ c = 92) := fun e => e.elim (fun e => d34 (by rw [e]; rfl)) (fun e => d92 (by rw [e]; rfl))
      have n10 : ¬ c = 10 := fun e => d10 (by rw [e]; rfl)
      have n9 : ¬ c = 9 := fun e => d9 (by rw [e]; rfl)
      by_cases dq : c.toNat < 32 ∨ 126 < c.toNat
      · have hq : Pln.quoC c = [92, 120, Pln.hexC (c.toNat / 16), Pln.hexC (c.toNat % 16)] := by
          unfold Pln.quoC
          rw [if_neg n34, if_neg n10, if_neg n9, if_pos (dq.imp (fun h => UInt8.lt_iff_toNat_lt.2 h) (fun h => UInt8.lt_iff_toNat_lt.2 h))]
        have HQ := Kept.mk hq
        have q1 : IntKind.u8.wrap ((c.toNat : Int) / 16) = ((c.toNat / 16 : Nat) : Int) := by rw [IntKind.wrap_u8]; omega
        have q2 : (c.toNat : Int).tmod 16 = ((c.toNat % 16 : Nat) : Int) := by rw [Int.tmod_eq_emod_of_nonneg (by omega)]; omega
        have q3 : IntKind.u8.wrap ((c.toNat % 16 : Nat) : Int) = ((c.toNat % 16 : Nat) : Int) := by rw [IntKind.wrap_u8]; omega
        have u16 : c.toNat / 16 < 16 := by omega
        have v16 : c.toNat % 16 < 16 := by omega
        generalize c.toNat / 16 = n1 at q1 u16 HQ
        generalize c.toNat % 16 = n2 at q2 q3 v16 HQ
        have u0 : (0 : Int) ≤ (n1 : Int) := by omega
        have u1 : (n1 : Int) < 16 := by omega
        have v0 : (0 : Int) ≤ (n2 : Int) := by omega
        have v1 : (n2 : Int) < 16 := by omega
        clear hq n34 n10 n9 d34 d92 d10 d9
        by_cases d0 : c.toNat < 32
        · have f0 : ((c.toNat : Nat) : Int) < 32 := by omega
          clear dq
          go_wp2
          have ho2 : Kept (wr.drew.ownsRow w.heap.size 5 1 u3 acc.length (bcN acc)) := HO
          go_region_law (first
            | (refine step_append_lies _ rfl (.tmp 50) (.tmp 57) 46 rfl w.heap.size 5 i0' (.int .u8 0) 1 1 Tryz.underlying46 hi hz0 hz1 hz2 rfl (by decide) u3 acc.length (bcN acc) (by rfl) (ho2.out.alloc _) ⟨wr.heap.size, 0, none⟩ 4 4 _ (by rfl) (by rfl) (cells_new _ _ _) (by intro u hu; simp at hu; rcases hu with rfl | rfl | rfl | rfl <;> rfl) (by decide) (by unfold maxLen; omega) (by omega) (by simp; omega) _ rfl ?_; intro g6 cap6 w6 hown6 hgrow6 _ _; have hb6 := Below.grown (HB.out.drew.alloc s3 _) hgrow6 (by simp; omega) (fun q hq => (HO.out.lt q hq).1); have O6 := Kept.mk hown6; have B6 := Kept.mk hb6; clear hown6 hgrow6 hb6))
          all_goals
            go_wp2
            go_roundw
          all_goals first
            | exact ⟨k + 1, by go_num, by omega, ⟨by rw [HST.out, HQ.out, bcN_append, List.length_append, hex4 u16 v16]; exact O6.out⟩, B6⟩
            | (simp [intOf]; omega)
        · have f0 : ¬ ((c.toNat : Nat) : Int) < 32 := by omega
          have f1 : (126 : Int) < ((c.toNat : Nat) : Int) := by omega
          clear dq
          go_wp2
          have ho2 : Kept (wr.drew.ownsRow w.heap.size 5 1 u3 acc.length (bcN acc)) := HO
          go_region_law (first
            | (refine step_append_lies _ rfl (.tmp 50) (.tmp 57) 46 rfl w.heap.size 5 i0' (.int .u8 0) 1 1 Tryz.underlying46 hi hz0 hz1 hz2 rfl (by decide) u3 acc.length (bcN acc) (by rfl) (ho2.out.alloc _) ⟨wr.heap.size, 0, none⟩ 4 4 _ (by rfl) (by rfl) (cells_new _ _ _) (by intro u hu; simp at hu; rcases hu with rfl | rfl | rfl | rfl <;> rfl) (by decide) (by unfold maxLen; omega) (by omega) (by simp; omega) _ rfl ?_; intro g6 cap6 w6 hown6 hgrow6 _ _; have hb6 := Below.grown (HB.out.drew.alloc s3 _) hgrow6 (by simp; omega) (fun q hq => (HO.out.lt q hq).1); have O6 := Kept.mk hown6; have B6 := Kept.mk hb6; clear hown6 hgrow6 hb6))
          all_goals
            go_wp2
            go_roundw
          all_goals first
            | exact ⟨k + 1, by go_num, by omega, ⟨by rw [HST.out, HQ.out, bcN_append, List.length_append, hex4 u16 v16]; exact O6.out⟩, B6⟩
            | (simp [intOf]; omega)
      · have hq : Pln.quoC c = [c] := by
          unfold Pln.quoC
          rw [if_neg n34, if_neg n10, if_neg n9, if_neg (fun h => dq (h.imp (fun h => (UInt8.lt_iff_toNat_lt.1 h : c.toNat < 32)) (fun h => by have h2 := UInt8.lt_iff_toNat_lt.1 h; have e : (126 : UInt8).toNat = 126 := rfl; omega)))]
        have HQ := Kept.mk hq
        have f0 : ¬ ((c.toNat : Nat) : Int) < 32 := by omega
        have f1 : ¬ (126 : Int) < ((c.toNat : Nat) : Int) := by omega
        clear hq n34 n10 n9 d34 d92 d10 d9 dq
        go_wp2_with (at_builtin; refine wpList_append_own _ rfl (.tmp 16) (.tmp 18) 46 rfl w.heap.size 5 i0' (.int .u8 0) 1 1 Tryz.underlying46 hi hz0 hz1 hz2 rfl (by decide) _ acc.length _ (by rfl) (HO.out.alloc _) ⟨wr.heap.size, 0, none⟩ 1 1 [.int .u8 (c.toNat : Int)] (by rfl) (by rfl) (cells_new _ _ _) (by intro u hu; simp at hu; first | (subst hu; rfl) | (rcases hu with rfl | rfl <;> rfl)) (by unfold maxLen; omega) (by omega) (by simp; omega) ?_; intro v' w5 hown5 hgrow5 _; have hb5 := Below.grown (HB.out.alloc s3 _) hgrow5 (by simp; omega) (fun q hq => (HO.out.lt q hq).1); have O5 := Kept.mk hown5; have B5 := Kept.mk hb5; clear hown5 hgrow5 hb5)
        go_roundw
        case rel => exact ⟨k + 1, by go_num, by omega, ⟨by rw [HST.out, HQ.out, bcN_append, List.length_append]; exact O5.out⟩, B5⟩
        case measure => simp [intOf]; omega
    · obtain rfl : k = s.size := by omega
      rw [List.take_of_length_le (by omega)] at HO hal
      have HRR : Kept (R = (34 :: S.flatMap Pln.quoC) ++ [34]) := ⟨by rw [← HR.out]; rfl⟩
      generalize (34 :: S.flatMap Pln.quoC) = acc at HO hal HRR
      have hac : acc.length ≤ 400001 := by omega
      go_wp2_with (first
        | (at_builtin; refine wpList_append_own _ rfl (.tmp 59) (.tmp 60) 46 rfl w.heap.size 5 i0' (.int .u8 0) 1 1 Tryz.underlying46 hi hz0 hz1 hz2 rfl (by decide) _ _ _ (by rfl) (HO.out.alloc _) ⟨wr.heap.size, 0, none⟩ 1 1 [.int .u8 34] (by rfl) (by rfl) (cells_new _ _ _) (by intro u hu; simp at hu; first | (subst hu; rfl) | (rcases hu with rfl | rfl <;> rfl)) (by unfold maxLen; omega) (by omega) (by simp; omega) ?_; intro v' w5 hown5 hgrow5 _; have hb5 := Below.grown (HB.out.alloc s3 _) hgrow5 (by simp; omega) (fun q hq => (HO.out.lt q hq).1); have O5 := Kept.mk hown5; obtain ⟨A5, c5, rfl⟩ := own_shape_b hown5; have hcv := conv_ownB (acc ++ [34]) (by rw [bcN_append]; exact hown5) (by simp); have B5 := Kept.mk hb5; clear hown5 hgrow5 hb5))
      refine bodyPost_ret (v := .string ⟨R.toArray⟩) (by rw [HRR.out]; simp [results, Tryz.results12, go_sem]) rfl ⟨rfl, B5.out⟩
end Go.Proofs.YtakccaldcolbmaaGreatDoor.Wln
