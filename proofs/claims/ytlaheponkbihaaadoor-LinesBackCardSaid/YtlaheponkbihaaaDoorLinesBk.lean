/- The walk over LinesBack (chapter 31). -/
import Derived.Test.YtlaheponkbihaaaDoorLinesBp
namespace Go.Proofs.YtlaheponkbihaaaDoor.Wln
open Go Go.RowKit Go.Proofs.YtlaheponkbihaaaDoor.Kb

/-- an item as it may come -/
def OkI (x : It) : Prop := x.1 < 256 ∧ x.2.1 < 256 ∧ x.2.2.1.length ≤ 140737488355328 ∧ x.2.2.2.1.length ≤ 140737488355328 ∧ -9223372036854775808 ≤ x.2.2.2.2 ∧ x.2.2.2.2 ≤ 9223372036854775807
set_option maxRecDepth 100000 in
set_option maxHeartbeats 4000000 in
theorem law_back (s : ByteArray) (A : Option Addr) (l : List It) (c : Nat) (w : World) (hE : LEnv w) (hr : RdI w A l) (hl : l.length ≤ 2999999999999) (hf : ∀ x ∈ l, OkI x) :
    Calls Tryd.prog 4 #[.string s, .slice A l.length c] w fun e w' => e = .returned (.bool true) ∧ Below w.heap.size w w' := by
  have CA := Kept.mk (awake_any w hE)
  by_cases hbig : 16000 < s.size
  · have b1 : (16000 : Int) < (s.size : Int) := by omega
    clear hE hbig hr hf
    go_enter Tryd.func4, Tryd.ntmps4
    go_wp2_with (go_at_call 6; refine CA.out.mono ?_; rintro e w1 ⟨rfl, hb1⟩; have H1 := Kept.mk hb1; clear hb1)
    go_ret
    exact ⟨rfl, H1.out⟩
  · have b1 : ¬ (16000 : Int) < (s.size : Int) := by omega
    obtain ⟨Q, hQ⟩ : ∃ Q : ByteArray, Q = ⟨(Pln.quoL s.data.toList).toArray⟩ := ⟨_, rfl⟩
    have hQz : Q.size ≤ 64002 := by
      have := quoL_len s.data.toList
      rw [size_len] at this
      rw [hQ, Lib.size_mk]
      omega
    have CQ : Kept (∀ wx, Calls Tryd.prog 10 #[.string s] wx fun e w' => e = .returned (.string Q) ∧ Below wx.heap.size wx w') := ⟨fun wx => by rw [hQ]; exact Quote_any s wx (by omega)⟩
    have CC : Kept (∀ x ∈ vbL, ∀ X : ByteArray, X = ⟨x.toArray⟩ → X.size ≤ 6 → ∀ wx, LEnv wx → Calls Tryd.prog 7 #[.string (⟨#[32, 32]⟩ ++ X ++ ⟨#[32, 32]⟩ ++ Q ++ ⟨#[32]⟩)] wx fun e w' => Below wx.heap.size wx w' ∧ ∃ (k n : Int) (A : Option Addr) (c : Nat), e = .returned (.tuple #[.agg #[.int .u8 k, .string s, .int .i64 n, .slice A 0 c], .int .i64 0])) := ⟨fun x hx X hX hXz wx hEx => Command_back x hx s X Q hX hQ (by
      simp only [ByteArray.size_append]
      have e1 : (⟨#[32, 32]⟩ : ByteArray).size = 2 := rfl
      have e2 : (⟨#[32]⟩ : ByteArray).size = 1 := rfl
      omega) wx hEx⟩
    have HQ := Kept.mk hQ
    have HE := Kept.mk hE
    have HR := Kept.mk hr
    have HF := Kept.mk hf
    clear hQ hE hr hf hbig
    go_enter Tryd.func4, Tryd.ntmps4
    go_wp2_with (first
      | (go_at_call 6; refine CA.out.mono ?_; rintro e w1 ⟨rfl, hb1⟩; have H1 := Kept.mk hb1; clear hb1)
      | (go_at_call 10; refine (CQ.out _).mono ?_; rintro e w2 ⟨rfl, hb2⟩; have H2 := Kept.mk (H1.out.trans (hb2.mono H1.out.size)); clear hb2))
    have HW : Kept (Below w2.heap.size w2 (w2.alloc (.cells (stC vbL).toArray 9))) := ⟨(Below.refl _ _).alloc (Nat.le_refl _) _⟩
    have HV := Kept.mk (rds_new w2 9 vbL)
    have HWE := Kept.mk (H2.out.trans (HW.out.mono H2.out.size))
    go_loopw [7, 8, 9] (fun i _ _ wx => ∃ k : Nat, i = .int .i64 (k : Int) ∧ k ≤ 4 ∧ Kept (Below (w2.alloc (.cells (stC vbL).toArray 9)).heap.size (w2.alloc (.cells (stC vbL).toArray 9)) wx)) (fun i _ _ _ => 4 - (intOf i).toNat)
    case atStart => exact ⟨0, rfl, by omega, ⟨Below.refl _ _⟩⟩
    case round =>
      obtain ⟨k, rfl, hk, HB⟩ := hrel
      have k0 : (0 : Int) ≤ (k : Int) := by omega
      by_cases hlt : k < 4
      · have k1 : (k : Int) < 4 := by omega
        obtain ⟨x, hx⟩ : ∃ x, vbL[k]? = some x := ⟨_, List.getElem?_eq_getElem (show k < vbL.length from hlt)⟩
        obtain ⟨g, off, e, hc⟩ := (HV.out.below HB.out) k x hx
        cases e
        rw [Nat.zero_add] at hc
        obtain ⟨X, hX⟩ : ∃ X : ByteArray, (⟨x.toArray⟩ : ByteArray) = X := ⟨_, rfl⟩
        rw [hX] at hc
        have hXz : X.size ≤ 6 := by rw [← hX, Lib.size_mk]; exact (vb_at x (List.mem_of_getElem? hx)).2.2.2.1
        have C1 := Kept.mk (fun wx hE => CC.out x (List.mem_of_getElem? hx) X hX.symm hXz wx hE)
        have n1 : ¬ 9223372036854775807 < 2 + X.size := by omega
        have n2 : ¬ 9223372036854775807 < 2 + X.size + 2 := by omega
        have n3 : ¬ 9223372036854775807 < 2 + X.size + 2 + Q.size := by omega
        have n4 : ¬ 9223372036854775807 < 2 + X.size + 2 + Q.size + 1 := by omega
        clear hx hX
        go_wp2_with (go_at_call 7; refine (C1.out _ ((HE.out.below HWE.out).below HB.out)).mono ?_; rintro e w5 ⟨hb5, kk, nn, A5, c5, rfl⟩; have B5 := Kept.mk (HB.out.trans (hb5.mono HB.out.size)); clear hb5)
        go_roundw
        case rel => exact ⟨k + 1, by go_num, by omega, ⟨B5.out.alloc B5.out.size _⟩⟩
        case measure => simp [intOf]; omega
      · obtain rfl : k = 4 := by omega
        rw [show ((4 : Nat) : Int) = 4 from rfl] at *
        have HB4 := Kept.mk (HWE.out.trans (HB.out.mono HWE.out.size))
        have HR4 := Kept.mk (HR.out.below HB4.out)
        clear HB HV HW CC
        go_wp2
        go_loopw [10, 11] (fun T i wx => ∃ k d : Nat, T = .int .i64 (tot (l.take k) : Int) ∧ i = .int .i64 (k : Int) ∧ k ≤ l.length ∧ wx = wr.drewN d) (fun _ i _ => l.length - (intOf i).toNat)
        case atStart => exact ⟨0, 0, rfl, rfl, by omega, rfl⟩
        case round =>
          obtain ⟨k, d, rfl, rfl, hk, rfl⟩ := hrel
          have k0 : (0 : Int) ≤ (k : Int) := by omega
          by_cases hlt : k < l.length
          · have k1 : (k : Int) < (l.length : Int) := by omega
            by_cases hT : tot (l.take k) ≤ 70000
            · have hT1 : (tot (l.take k) : Int) ≤ 70000 := by omega
              obtain ⟨x, hx⟩ : ∃ x, l[k]? = some x := ⟨_, List.getElem?_eq_getElem hlt⟩
              obtain ⟨g, off, rfl, x0, x1, x2, x3, x4⟩ := HR4.out k x hx
              obtain ⟨_, _, f3, f4, _, _⟩ := HF.out _ (List.mem_of_getElem? hx)
              have hts := tot_step hx
              have HTS := Kept.mk hts
              obtain ⟨a, b, nm, tx, n⟩ := x
              simp only at x0 x1 x2 x3 x4 f3 f4 HTS
              clear hx hts x0 x1 x4
              generalize tot (l.take k) = T0 at hT hT1 HTS
              have t1 : IntKind.i64.wrap ((T0 : Int) + (nm.length : Int)) = (T0 : Int) + (nm.length : Int) := by rw [IntKind.wrap_i64]; omega
              have t2 : IntKind.i64.wrap ((T0 : Int) + (nm.length : Int) + (tx.length : Int)) = (T0 : Int) + (nm.length : Int) + (tx.length : Int) := by rw [IntKind.wrap_i64]; omega
              go_wp2
              go_quiet (fail)
              go_wp2
              go_roundw
              case rel => exact ⟨k + 1, d + nq, by rw [HTS.out]; go_num, by go_num, by omega, rfl⟩
              case measure => simp [intOf]; omega
            · have hT1 : ¬ (tot (l.take k) : Int) ≤ 70000 := by omega
              have hT2 : (70000 : Int) < (tot (l.take k) : Int) := by omega
              generalize tot (l.take k) = T0 at hT hT1 hT2
              go_wp2
              go_ret
              exact ⟨rfl, HB4.out.trans ((drewN_below _ _).mono HB4.out.size)⟩
          · obtain rfl : k = l.length := by omega
            rw [List.take_of_length_le (Nat.le_refl _)]
            by_cases hT : tot l ≤ 70000
            · have hT1 : ¬ (70000 : Int) < (tot l : Int) := by omega
              have hfit : ∀ x ∈ l, FitI x := fun x hx => by
                obtain ⟨f1, f2, f3, f4, f5, f6⟩ := HF.out x hx
                have := tot_mem l x hx
                exact ⟨f1, f2, by omega, by omega, f5, f6⟩
              have HFT := Kept.mk hfit
              have HT := Kept.mk hT
              clear hfit hT HF
              generalize tot l = T0 at hT1
              have hb5 := HB4.out.trans ((drewN_below wr d).mono HB4.out.size)
              have hr5 := HR4.out.below (drewN_below wr d)
              have hc5 : Kept (tot l ≤ 70000) := HT
              generalize wr.drewN d = W5 at hb5 hr5
              have cS := Shown_many A c l W5 (HE.out.below hb5) hr5 (by omega) HFT.out
              obtain ⟨i0', hi, hz0, hz1, hz2⟩ := info_parts infoT
              have B5 := Kept.mk hb5
              have CS := Kept.mk cS
              have wl1 : IntKind.i64.wrap ((l.length : Int) + 1) = (l.length : Int) + 1 := by rw [IntKind.wrap_i64]; omega
              clear hb5 hr5 cS hc5 HT HB4 HR4 HR
              go_wp2_with (first
                | (go_at_call 11; refine CS.out.mono ?_; rintro e w6 ⟨v6, rfl, ho6, hb6⟩; have HO6 := Kept.mk ho6; have HB6 := Kept.mk hb6; clear ho6 hb6)
                | (at_builtin; refine wpList_append_own _ rfl (.tmp 84) (.tmp 86) 34 rfl W5.heap.size 9 i0' (.string ⟨#[]⟩) 1 16 Tryd.underlying34 hi hz0 hz1 hz2 rfl (by decide) _ _ _ (by rfl) (HO6.out.alloc _) ⟨w6.heap.size, 0, none⟩ 1 1 [.string Q] (by rfl) (by rfl) (cell_one_new _ _ _) (by intro u hu; simp at hu; subst hu; rfl) (by unfold maxLen; omega) (by omega) (by have := HB6.out.size; simp; omega) ?_; intro v' w7 hown7 hgrow7 _; have hb7 := Below.grown (HB6.out.alloc HB6.out.size _) hgrow7 (by have := HB6.out.size; simp; omega) (fun q hq => (HO6.out.lt q hq).1); obtain ⟨A7, c7, rfl, _⟩ := own_shapeS hown7; have O7 := Kept.mk hown7; have B7 := Kept.mk (B5.out.trans (hb7.mono B5.out.size)); clear hown7 hgrow7 hb7))
              have hall : ∀ y ∈ l.map showL ++ [Pln.quoL s.data.toList], y.length ≤ 1000000 ∧ ∀ z ∈ y, Pln.seen z := by
                intro y hy
                rcases List.mem_append.1 hy with h | h
                · obtain ⟨x, hx, rfl⟩ := List.mem_map.1 h
                  exact ⟨len_show (HFT.out x hx), seen_show x⟩
                · simp only [List.mem_cons, List.mem_nil_iff, or_false] at h
                  subst h
                  exact ⟨by have := hQz; rw [HQ.out, Lib.size_mk] at this; omega, Pln.quoL_seen _⟩
              have hrd : RdS w7 A7 (l.map showL ++ [Pln.quoL s.data.toList]) := by
                have h := O7.out
                rw [HQ.out, show stC (l.map showL) ++ [Value.string ⟨(Pln.quoL s.data.toList).toArray⟩] = stC (l.map showL ++ [Pln.quoL s.data.toList]) from by simp [stC]] at h
                exact rds_own h (by simp)
              have hL2 : (l.map showL ++ [Pln.quoL s.data.toList]).length = l.length + 1 := by simp
              generalize l.map showL ++ [Pln.quoL s.data.toList] = L2 at hall hrd hL2
              have HALL := Kept.mk hall
              have HRD := Kept.mk hrd
              have HL2 := Kept.mk hL2
              clear hall hrd hL2 O7
              go_loopw [13, 14] (fun i _ wx => ∃ k : Nat, i = .int .i64 (k : Int) ∧ k ≤ l.length + 1 ∧ w7 = wx) (fun i _ _ => l.length + 1 - (intOf i).toNat)
              case atStart => exact ⟨0, rfl, by omega, rfl⟩
              case round =>
                obtain ⟨k, rfl, hk, rfl⟩ := hrel
                have k0 : (0 : Int) ≤ (k : Int) := by omega
                by_cases hlt : k < l.length + 1
                · have k1 : (k : Int) < (l.length : Int) + 1 := by omega
                  obtain ⟨y, hy⟩ : ∃ y, L2[k]? = some y := ⟨_, List.getElem?_eq_getElem (by rw [HL2.out]; exact hlt)⟩
                  obtain ⟨g, off, rfl, hc⟩ := HRD.out k y hy
                  obtain ⟨hyl, hys⟩ := HALL.out y (List.mem_of_getElem? hy)
                  obtain ⟨Y, hY⟩ : ∃ Y : ByteArray, (⟨y.toArray⟩ : ByteArray) = Y := ⟨_, rfl⟩
                  rw [hY] at hc
                  have hYz : Y.size ≤ 1000000 := by rw [← hY, Lib.size_mk]; exact hyl
                  have hsee : ∀ (m : Nat) (h : m < Y.size), ¬ (((Y[m]'h).toNat : Nat) : Int) < 32 ∧ ¬ (126 : Int) < (((Y[m]'h).toNat : Nat) : Int) := by
                    intro m h
                    subst hY
                    have hg := byte_get _ m h
                    have := hys _ (List.mem_of_getElem? (show y[m]? = some _ from hg))
                    obtain ⟨h1, h2⟩ := this
                    have h1 := UInt8.le_iff_toNat_le.1 h1
                    have h2 := UInt8.le_iff_toNat_le.1 h2
                    have e1 : (32 : UInt8).toNat = 32 := rfl
                    have e2 : (126 : UInt8).toNat = 126 := rfl
                    rw [e1] at h1
                    rw [e2] at h2
                    constructor <;> omega
                  have HSEE := Kept.mk hsee
                  clear hsee hys hyl hY hy
                  go_wp2
                  go_loopw [14] (fun j wx => ∃ m : Nat, j = .int .i64 (m : Int) ∧ m ≤ Y.size ∧ w7 = wx) (fun j _ => Y.size - (intOf j).toNat)
                  case atStart => exact ⟨0, rfl, by omega, rfl⟩
                  case round =>
                    obtain ⟨m, rfl, hm, rfl⟩ := hrel
                    have m0 : (0 : Int) ≤ (m : Int) := by omega
                    by_cases hmlt : m < Y.size
                    · have m1 : (m : Int) < (Y.size : Int) := by omega
                      obtain ⟨s1, s2⟩ := HSEE.out m hmlt
                      have s1 : (((Y[m]'hmlt).toNat : Nat) : Int) < 32 ↔ False := by simpa using s1
                      have s2 : (126 : Int) < (((Y[m]'hmlt).toNat : Nat) : Int) ↔ False := by simpa using s2
                      go_wp2
                      go_roundw
                      case rel => exact ⟨m + 1, by go_num, by omega, trivial⟩
                      case measure => simp [intOf]; omega
                    · obtain rfl : m = Y.size := by omega
                      go_wp2
                      go_roundw
                      case rel => exact ⟨k + 1, by go_num, by omega, trivial⟩
                      case measure => simp [intOf]; omega
                · obtain rfl : k = l.length + 1 := by omega
                  go_wp2
                  go_ret
                  exact ⟨rfl, B7.out⟩
            · have hT1 : (70000 : Int) < (tot l : Int) := by omega
              generalize tot l = T0 at hT hT1
              go_wp2
              go_ret
              exact ⟨rfl, HB4.out.trans ((drewN_below _ _).mono HB4.out.size)⟩
end Go.Proofs.YtlaheponkbihaaaDoor.Wln
