/- The walks over end and stretch (chapter 06). -/
import Derived.Test.YtkcpfjhdbbapiaaGreatDoorNodeKit
import Derived.Test.YtkcpfjhdbbapiaaGreatDoorBeh
import Derived.Test.YtkcpfjhdbbapiaaGreatDoorTreeWalksA
import Derived.Test.YtkcpfjhdbbapiaaGreatDoorFlatKit
namespace Go.Proofs.YtkcpfjhdbbapiaaGreatDoor.Wtr
open Go Go.RowKit Go.Proofs.YtkcpfjhdbbapiaaGreatDoor.Kb Go.Proofs.YtkcpfjhdbbapiaaGreatDoor.Flt

/-- the first place from k on whose parent is ahead of i -/
def endF (l : List Ptr.Nd) (i : Nat) : Nat → Nat → Nat
  | 0, k => k
  | f + 1, k => if k < l.length ∧ (i : Int) ≤ Ptr.par l k then endF l i f (k + 1) else k
/-- the place behind a subtree -/
def endN (l : List Ptr.Nd) (i : Nat) : Nat := endF l i l.length (i + 1)
theorem endF_le (l : List Ptr.Nd) (i : Nat) : ∀ f k, k ≤ l.length → k ≤ endF l i f k ∧ endF l i f k ≤ l.length
  | 0, k, h => ⟨Nat.le_refl _, h⟩
  | f + 1, k, h => by
    unfold endF
    split
    · rename_i h2
      have := endF_le l i f (k + 1) (by omega)
      omega
    · exact ⟨Nat.le_refl _, h⟩
theorem endN_le (l : List Ptr.Nd) (i : Nat) (h : i < l.length) : i < endN l i ∧ endN l i ≤ l.length := by
  have := endF_le l i l.length (i + 1) (by omega)
  unfold endN
  omega
set_option maxHeartbeats 1000000 in
theorem end_any (A : Option Addr) (l : List Ptr.Nd) (c i : Nat) (w : World) (hr : RdN w A l) (hi : i < l.length) (hl : l.length ≤ 100000) :
    Calls Tryz.prog 33 #[.slice A l.length c, .int .i64 i] w fun e w' => e = .returned (.int .i64 (endN l i)) ∧ w = w' := by
  generalize hT : endN l i = T
  unfold endN at hT
  have HT := Kept.mk hT
  have HRD := Kept.mk hr
  have i0 : (0 : Int) ≤ (i : Int) := by omega
  have i1 : (i : Int) < (l.length : Int) := by omega
  clear hT hr
  go_enter Tryz.func33, Tryz.ntmps33
  go_wp2
  go_loop [5] (fun p => ∃ k f : Nat, p = .int .i64 k ∧ k ≤ l.length ∧ l.length ≤ k + f ∧ Kept (endF l i f k = T)) (fun p => l.length - (intOf p).toNat)
  case atStart => exact ⟨i + 1, l.length, by go_num, by omega, by omega, HT⟩
  case round =>
    obtain ⟨k, f, rfl, hk, hkf, H⟩ := hrel
    have k0 : (0 : Int) ≤ (k : Int) := by omega
    by_cases hlt : k < l.length
    · obtain ⟨g, rfl⟩ : ∃ g, f = g + 1 := ⟨f - 1, by omega⟩
      have k1 : (k : Int) < (l.length : Int) := by omega
      obtain ⟨b, off, rfl, _, _, _, c3⟩ := HRD.out.at_ hlt
      have h := H.out
      unfold endF at h
      simp only at c3
      generalize Ptr.par l k = P at c3 h
      by_cases hp : (i : Int) ≤ P
      · rw [if_pos ⟨hlt, hp⟩] at h
        have H2 := Kept.mk h
        clear h H
        go_wp2
        go_round
        case rel => exact ⟨k + 1, g, by go_num, by omega, by omega, H2⟩
        case measure => simp [intOf]; omega
      · rw [if_neg (fun e => hp e.2)] at h
        have H2 := Kept.mk h
        clear h H
        go_wp2
        go_ret
        exact ⟨ret_i64 (by rw [← H2.out]), rfl⟩
    · have h := H.out
      have hk2 : ¬ (k : Int) < (l.length : Int) := by omega
      have H2 : Kept (k = T) := ⟨by
        rw [← h]
        cases f with
        | zero => rfl
        | succ g => unfold endF; rw [if_neg (fun e => hlt e.1)]⟩
      clear h H
      go_wp2
      go_ret
      exact ⟨ret_i64 (by rw [← H2.out]), rfl⟩
/-- the places of a stretch that are no attributes -/
def stretchL (l : List Ptr.Nd) (a b : Nat) : List Nat := (List.range' a (b - a)).filter fun j => !(Ptr.kin l j == 3)
theorem beq_i (U n : Nat) : ((U : Int) == (n : Int)) = (U == n) := by rw [Bool.eq_iff_iff, beq_iff_eq, beq_iff_eq]; omega
def ic (l : List Nat) : List Value := l.map fun (x : Nat) => Value.int .i64 (x : Int)
theorem ic_append (l m : List Nat) : ic (l ++ m) = ic l ++ ic m := by simp [ic]
theorem ic_length (l : List Nat) : (ic l).length = l.length := by simp [ic]
theorem stretchL_step (l : List Ptr.Nd) (a k : Nat) (h : a ≤ k) : stretchL l a (k + 1) = stretchL l a k ++ (if (Ptr.kin l k == 3) = true then [] else [k]) := by
  unfold stretchL
  rw [show k + 1 - a = (k - a) + 1 by omega, List.range'_concat, List.filter_append, show a + 1 * (k - a) = k by omega]
  congr 1
  cases h : Ptr.kin l k == 3 <;> simp [h]
theorem stretchL_le (l : List Ptr.Nd) (a k : Nat) : (stretchL l a k).length ≤ k - a := by
  unfold stretchL
  refine Nat.le_trans (List.length_filter_le _ _) ?_
  rw [List.length_range']
  exact Nat.le_refl _
theorem infoI' : (Tryz.prog.info? 3).map (fun i => (i.zero, i.size, i.bytes)) = some (some (.int .i64 0), 1, 8) := by kernel_rfl
theorem own_shape_i {w : World} {base n : Nat} {v : Value} {xs : List Value} (h : w.ownsRow base 3 1 v n xs) : ∃ A c, v = .slice A n c := by
  rcases h.2 with ⟨rfl, hn⟩ | ⟨g, cap, cur, rfl, _⟩
  · subst hn; exact ⟨none, 0, rfl⟩
  · exact ⟨_, cap, rfl⟩
set_option maxRecDepth 100000 in
set_option maxHeartbeats 2000000 in
theorem stretch_any (A : Option Addr) (l : List Ptr.Nd) (c a b : Nat) (w : World) (hr : RdN w A l) (hab : a ≤ b) (hb : b ≤ l.length) (hl : l.length ≤ 100000) :
    Calls Tryz.prog 38 #[.slice A l.length c, .int .i64 a, .int .i64 b] w fun e w' => ∃ v, e = .returned v ∧ w'.ownsRow w.heap.size 3 1 v (stretchL l a b).length (ic (stretchL l a b)) ∧ Below w.heap.size w w' := by
  obtain ⟨i0', hi, hz0, hz1, hz2⟩ := info_parts infoI'
  have HRD := Kept.mk hr
  clear hr
  go_enter Tryz.func38, Tryz.ntmps38
  go_wp2
  go_loopw [7, 8] (fun v i wx => ∃ k : Nat, a ≤ k ∧ k ≤ b ∧ i = .int .i64 k ∧ Kept (wx.ownsRow w.heap.size 3 1 v (stretchL l a k).length (ic (stretchL l a k))) ∧ Kept (Below w.heap.size w wx)) (fun _ i _ => b - (intOf i).toNat)
  case atStart => exact ⟨a, by omega, hab, rfl, ⟨by rw [show stretchL l a a = [] by simp [stretchL]]; exact World.ownsRow_nil _ _ _ _⟩, ⟨Below.refl _ _⟩⟩
  case round =>
    obtain ⟨k, hak, hkb, rfl, HO, HB⟩ := hrel
    obtain ⟨A1, c1, rfl⟩ := own_shape_i HO.out
    have s3 := HB.out.size
    have k0 : (0 : Int) ≤ (k : Int) := by omega
    by_cases hlt : k < b
    · have k1 : (k : Int) < (b : Int) := by omega
      have k2 : (k : Int) < (l.length : Int) := by omega
      obtain ⟨bb, off, rfl, c0, _⟩ := (HRD.out.below HB.out).at_ (i := k) (by omega)
      simp only at c0
      have hst := stretchL_step l a k hak
      have hsl := stretchL_le l a k
      have e3 : (((Ptr.kin l k : Nat) : Int) != 3) = !(Ptr.kin l k == 3) := congrArg Bool.not (beq_i (Ptr.kin l k) 3)
      generalize Ptr.kin l k = K at c0 e3 hst
      generalize (K == 3) = Z at e3 hst
      have HST := Kept.mk hst
      clear hst
      cases Z with
      | true =>
        go_wp2
        go_roundw
        case rel => exact ⟨k + 1, by omega, by omega, by go_num, ⟨by rw [HST.out, if_pos rfl, List.append_nil]; exact HO.out⟩, HB⟩
        case measure => simp [intOf]; omega
      | false =>
        go_wp2_with (at_builtin; refine wpList_append_own _ rfl (.tmp 21) (.tmp 23) 27 rfl w.heap.size 3 i0' (.int .i64 0) 1 8 Tryz.underlying27 hi hz0 hz1 hz2 rfl (by decide) _ _ _ (by rfl) (HO.out.alloc _) ⟨wr.heap.size, 0, none⟩ 1 1 [.int .i64 (k : Int)] (by rfl) (by rfl) (cell_one_new _ _ _) (by intro u hu; simp at hu; subst hu; rfl) (by unfold maxLen; omega) (by omega) (by simp; omega) ?_; intro v' w5 hown5 hgrow5 _; have hb5 := Below.grown (HB.out.alloc s3 _) hgrow5 (by simp; omega) (fun q hq => (HO.out.lt q hq).1); have O5 := Kept.mk hown5; have B5 := Kept.mk hb5; clear hown5 hgrow5 hb5)
        go_roundw
        case rel => exact ⟨k + 1, by omega, by omega, by go_num, ⟨by rw [HST.out, if_neg (by simp), ic_append, List.length_append]; exact O5.out⟩, B5⟩
        case measure => simp [intOf]; omega
    · obtain rfl : k = b := by omega
      go_wp2
      go_ret
      exact ⟨_, rfl, HO.out, HB.out⟩
end Go.Proofs.YtkcpfjhdbbapiaaGreatDoor.Wtr
