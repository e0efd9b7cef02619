/- The walk over SameBytes. -/
import Derived.Test.YtokphfpjgmmklaaDoorKeyWalksB
namespace Go.Proofs.YtokphfpjgmmklaaDoor.Wk
open Go Go.RowKit Go.Proofs.YtokphfpjgmmklaaDoor.Kb

theorem drop_step (l : List UInt8) (k : Nat) (h : k < l.length) : l.drop k = l.getD k 0 :: l.drop (k + 1) := by
  rw [List.drop_eq_getElem_cons h]
  simp [List.getD, List.getElem?_eq_getElem h]
theorem same_step (x y : UInt8) (l m : List UInt8) : decide (x :: l = y :: m) = (decide (x = y) && decide (l = m)) := by
  by_cases h : x = y <;> by_cases h' : l = m <;> simp [h, h']
set_option maxRecDepth 100000 in
set_option maxHeartbeats 1000000 in
theorem same_any (A A' : Option Addr) (l l' : List UInt8) (c c' : Nat) (w : World) (hr : Rd w A l) (hr' : Rd w A' l') (hl : l.length ≤ 140737488355328) :
    Calls Tryd.prog 13 #[.slice A l.length c, .slice A' l'.length c'] w fun e w' => e = .returned (.bool (decide (l = l'))) ∧ Below w.heap.size w w' := by
  by_cases hlen : l.length = l'.length
  · generalize hD : decide (l = l') = D
    have HD := Lib.hid hD
    have HR := Lib.hid hr
    have HR' := Lib.hid hr'
    have HL := Lib.hid hlen
    rw [← hlen]
    clear hr hr' hD hlen
    go_enter Tryd.func13, Tryd.ntmps13
    go_wp2
    go_loopw [5] (fun i wr => ∃ k : Nat, k ≤ l.length ∧ i = .int .i64 k ∧ Below w.heap.size w wr ∧ Hid (decide (l.drop k = l'.drop k) = D)) (fun i _ => l.length - (intOf i).toNat)
    case atStart => exact ⟨0, Nat.zero_le _, rfl, Below.refl _ _, HD.out⟩
    case round =>
      obtain ⟨k, hk, rfl, hb, H⟩ := hrel
      by_cases hlt : k < l.length
      · have hlt' : k < l'.length := by rw [← HL.out]; exact hlt
        obtain ⟨b, off, rfl, hc⟩ := (HR.out.below hb).at_ hlt
        obtain ⟨b', off', rfl, hc'⟩ := (HR'.out.below hb).at_ hlt'
        have h1 := H.out
        rw [drop_step l k hlt, drop_step l' k hlt', same_step] at h1
        generalize l.getD k 0 = x at hc h1
        generalize l'.getD k 0 = y at hc' h1
        have i0 : (0 : Int) ≤ (k : Int) := by omega
        have i1 : (k : Int) < (l.length : Int) := by omega
        by_cases hxy : x = y
        · subst hxy
          have hne : (((x.toNat : Int)) != (x.toNat : Int)) = false := by simp
          have H1 : Hid (decide (l.drop (k + 1) = l'.drop (k + 1)) = D) := by rw [decide_eq_true rfl, Bool.true_and] at h1; exact h1
          clear h1 H HD
          go_wp2
          go_quiet (fail)
          go_wp2
          go_roundw
          case rel => exact ⟨k + 1, by omega, by go_num, below_drewN hb _, H1.out⟩
          case measure => simp [intOf]; omega
        · have hne : (((x.toNat : Int)) != (y.toNat : Int)) = true := by
            simp only [bne_iff_ne, ne_eq]
            intro e
            exact hxy (UInt8.toNat_inj.1 (by omega))
          have H1 : Hid (D = false) := by rw [decide_eq_false hxy, Bool.false_and] at h1; exact h1.symm
          clear h1 H HD hxy
          go_wp2
          go_quiet (fail)
          go_wp2
          go_ret
          exact ⟨ret_bool H1.out.symm, below_drewN hb _⟩
      · have h1 := H.out
        rw [List.drop_eq_nil_of_le (by omega), List.drop_eq_nil_of_le (by have := HL.out; omega)] at h1
        have H1 : Hid (D = true) := h1.symm
        clear h1 H HD
        go_wp2
        go_ret
        exact ⟨ret_bool H1.out.symm, hb⟩
  · have e : decide (l = l') = false := decide_eq_false fun h => hlen (by rw [h])
    rw [e]
    have hne : (((l.length : Int)) != (l'.length : Int)) = true := by
      simp only [bne_iff_ne, ne_eq]
      omega
    clear hr hr' e
    go_enter Tryd.func13, Tryd.ntmps13
    go_wp2
    go_ret
    exact ⟨rfl, Below.refl _ _⟩
end Go.Proofs.YtokphfpjgmmklaaDoor.Wk
