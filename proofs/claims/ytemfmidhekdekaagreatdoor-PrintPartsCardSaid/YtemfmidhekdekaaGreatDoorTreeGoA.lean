/- The walks over end and stretch (chapter 06). -/
import Derived.Test.YtemfmidhekdekaaGreatDoorPsB
import Derived.Test.YtemfmidhekdekaaGreatDoorPsA
import Derived.Test.YtemfmidhekdekaaGreatDoorTreeVd
import Derived.Test.YtemfmidhekdekaaGreatDoorPsA
namespace Go.Proofs.YtemfmidhekdekaaGreatDoor.Wtr
open Go Go.RowKit Go.Proofs.YtemfmidhekdekaaGreatDoor.Kb Go.Proofs.YtemfmidhekdekaaGreatDoor.Flt

/-- the first place from k on whose parent is ahead of i -/
def endF (l : List Ptr.Nd) (i : Nat) : Nat → Nat → Nat
  | 0, k => k
  | f + 1, k => if k < l.length ∧ (i : Int) ≤ Ptr.par l k then endF l i f (k + 1) else k
/-- the place behind a subtree -/
def endN (l : List Ptr.Nd) (i : Nat) : Nat := endF l i l.length (i + 1)
theorem endF_le (l : List Ptr.Nd) (i : Nat) : ∀ f k, k ≤ l.length → k ≤ endF l i f k ∧ endF l i f k ≤ l.length
  | 0, k, h => ⟨Nat.le_refl _, h⟩
  | f + 1, k, h => by
    unfold endF
    split
    · rename_i h2
      have := endF_le l i f (k + 1) (by omega)
      omega
    · exact ⟨Nat.le_refl _, h⟩
theorem endN_le (l : List Ptr.Nd) (i : Nat) (h : i < l.length) : i < endN l i ∧ endN l i ≤ l.length := by
  have := endF_le l i l.length (i + 1) (by omega)
  unfold endN
  omega
set_option maxHeartbeats 1000000 in
theorem end_any (A : Option Addr) (l : List Ptr.Nd) (c i : Nat) (w : World) (hr : RdN w A l) (hi : i < l.length) (hl : l.length ≤ 100000) :
    Calls Tryz.prog 37 #[.slice A l.length c, .int .i64 i] w fun e w' => e = .returned (.int .i64 (endN l i)) ∧ w = w' := by
  generalize hT : endN l i = T
  unfold endN at hT
  have HT := Kept.mk hT
  have HRD := Kept.mk hr
  have i0 : (0 : Int) ≤ (i : Int) := by omega
  have i1 : (i : Int) < (l.length : Int) := by omega
  clear hT hr
  go_enter Tryz.func37, Tryz.ntmps37
  go_wp2
  go_loop [5] (fun p => ∃ k f : Nat, p = .int .i64 k ∧ k ≤ l.length ∧ l.length ≤ k + f ∧ Kept (endF l i f k = T)) (fun p => l.length - (intOf p).toNat)
  case atStart => exact ⟨i + 1, l.length, by go_num, by omega, by omega, HT⟩
  case round =>
    obtain ⟨k, f, rfl, hk, hkf, H⟩ := hrel
    have k0 : (0 : Int) ≤ (k : Int) := by omega
    by_cases hlt : k < l.length
    · obtain ⟨g, rfl⟩ : ∃ g, f = g + 1 := ⟨f - 1, by omega⟩
      have k1 : (k : Int) < (l.length : Int) := by omega
      obtain ⟨b, off, rfl, _, _, _, c3⟩ := HRD.out.at_ hlt
      have h := H.out
      unfold endF at h
      simp only at c3
      generalize Ptr.par l k = P at c3 h
      by_cases hp : (i : Int) ≤ P
      · rw [if_pos ⟨hlt, hp⟩] at h
        have H2 := Kept.mk h
        clear h H
        go_wp2
        go_round
        case rel => exact ⟨k + 1, g, by go_num, by omega, by omega, H2⟩
        case measure => simp [intOf]; omega
      · rw [if_neg (fun e => hp e.2)] at h
        have H2 := Kept.mk h
        clear h H
        go_wp2
        go_ret
        exact ⟨ret_i64 (by rw [← H2.out]), rfl⟩
    · have h := H.out
      have hk2 : ¬ (k : Int) < (l.length : Int) := by omega
      have H2 : Kept (k = T) := ⟨by
        rw [← h]
        cases f with
        | zero => rfl
        | succ g => unfold endF; rw [if_neg (fun e => hlt e.1)]⟩
      clear h H
      go_wp2
      go_ret
      exact ⟨ret_i64 (by rw [← H2.out]), rfl⟩
/-- the places of a stretch that are no attributes -/
def stretchL (l : List Ptr.Nd) (a b : Nat) : List Nat := (List.range' a (b - a)).filter fun j => !(Ptr.kin l j == 3)
theorem beq_i (U n : Nat) : ((U : Int) == (n : Int)) = (U == n) := by rw [Bool.eq_iff_iff, beq_iff_eq, beq_iff_eq]; omega
def ic (l : List Nat) : List Value := l.map fun (x : Nat) => Value.int .i64 (x : Int)
theorem ic_append (l m : List Nat) : ic (l ++ m) = ic l ++ ic m := by simp [ic]
theorem ic_length (l : List Nat) : (ic l).length = l.length := by simp [ic]
theorem stretchL_step (l : List Ptr.Nd) (a k : Nat) (h : a ≤ k) : stretchL l a (k + 1) = stretchL l a k ++ (if (Ptr.kin l k == 3) = true then [] else [k]) := by
  unfold stretchL
  rw [show k + 1 - a = (k - a) + 1 by omega, List.range'_concat, List.filter_append, show a + 1 * (k - a) = k by omega]
  congr 1
  cases h : Ptr.kin l k == 3 <;> simp [h]
theorem stretchL_le (l : List Ptr.Nd) (a k : Nat) : (stretchL l a k).length ≤ k - a := by
  unfold stretchL
  refine Nat.le_trans (List.length_filter_le _ _) ?_
  rw [List.length_range']
  exact Nat.le_refl _
theorem infoI' : (Tryz.prog.info? 3).map (fun i => (i.zero, i.size, i.bytes)) = some (some (.int .i64 0), 1, 8) := by kernel_rfl
theorem own_shape_i {w : World} {base n : Nat} {v : Value} {xs : List Value} (h : w.ownsRow base 3 1 v n xs) : ∃ A c, v = .slice A n c := by
  rcases h.2 with ⟨rfl, hn⟩ | ⟨g, cap, cur, rfl, _⟩
  · subst hn; exact ⟨none, 0, rfl⟩
  · exact ⟨_, cap, rfl⟩
end Go.Proofs.YtemfmidhekdekaaGreatDoor.Wtr
