/- The walks over the document's xml, deep, InOrder, attribute; the program's within (chapter 06). -/
import Derived.Test.YtkjodleggfacbaaDoorTreeWalksB
namespace Go.Proofs.YtkjodleggfacbaaDoor.Wtr
open Go Go.RowKit Go.Proofs.YtkjodleggfacbaaDoor.Kb

def withinB (t r e : Bool) (l : List Ptr.Nd) (P : Int) : Bool := if P < 0 then t else if Ptr.kin l P.toNat = 1 then r else e && Ptr.kin l P.toNat == 2
set_option maxHeartbeats 1000000 in
theorem within_any (b0 b1 b2 t r e : Bool) (A : Option Addr) (l : List Ptr.Nd) (c : Nat) (P : Int) (w : World) (hr : RdN w A l) (hP : P < l.length) :
    Calls Tryd.prog 46 #[.agg #[.bool b0, .bool b1, .bool b2, .bool t, .bool r, .bool e], .slice A l.length c, .int .i64 P] w fun e' w' => e' = .returned (.bool (withinB t r e l P)) ∧ Below w.heap.size w w' := by
  have hbx : ∀ o, Below w.heap.size w (w.alloc o) := fun o => (Below.refl _ _).alloc (Nat.le_refl _) o
  by_cases hq : P < 0
  · have hX : Kept (withinB t r e l P = t) := ⟨if_pos hq⟩
    have HB := Kept.mk hbx
    clear hr hbx
    go_enter Tryd.func46, Tryd.ntmps46
    go_wp2
    go_ret
    exact ⟨ret_bool (by rw [hX.out]), HB.out _⟩
  · obtain ⟨p, rfl⟩ : ∃ p : Nat, P = p := ⟨P.toNat, by omega⟩
    have hX : Kept (withinB t r e l (p : Int) = if Ptr.kin l p = 1 then r else e && Ptr.kin l p == 2) := ⟨by unfold withinB; rw [if_neg hq, Int.toNat_natCast]⟩
    obtain ⟨b, off, rfl, _⟩ := hr.at_ (i := p) (by omega)
    have c0 := fun o => ((hr.below (hbx o)).cells (i := p) (by omega)).1
    simp only at c0
    generalize Ptr.kin l p = K at c0 hX
    have j0 : (0 : Int) ≤ (p : Int) := by omega
    have hq' : ¬ (p : Int) < 0 := hq
    have HB := Kept.mk hbx
    clear hq hr hbx
    by_cases h1 : K = 1
    · subst h1
      go_enter Tryd.func46, Tryd.ntmps46
      go_wp2
      go_ret
      exact ⟨ret_bool (by rw [hX.out]; rfl), HB.out _⟩
    · have e1 : ((K : Int) == 1) = false := by simp; omega
      rw [if_neg h1] at hX
      have e2 : ((K : Int) == 2) = (K == 2) := by rw [Bool.eq_iff_iff]; simp; omega
      clear h1
      cases e
      · go_enter Tryd.func46, Tryd.ntmps46
        go_wp2
        go_ret
        exact ⟨ret_bool (by rw [hX.out]; rfl), HB.out _⟩
      · go_enter Tryd.func46, Tryd.ntmps46
        go_wp2
        go_ret
        exact ⟨ret_bool (by rw [hX.out]; rfl), HB.out _⟩
/-- how many elements are on the way up from a place -/
def depI (l : List Ptr.Nd) (f : Nat) (P : Int) : Nat := if P < 0 then 0 else Ptr.dep l f P.toNat
theorem depI_step (l : List Ptr.Nd) (f p : Nat) : depI l (f + 1) (p : Int) = (if Ptr.kin l p = 2 then 1 else 0) + depI l f (Ptr.par l p) := by
  unfold depI
  rw [if_neg (by omega), Int.toNat_natCast, Ptr.dep]
set_option maxHeartbeats 1000000 in
theorem refDeep_any (A : Option Addr) (l : List Ptr.Nd) (c i : Nat) (w : World) (hr : RdN w A l) (hi : i < l.length) (hR : Ptr.Rng l (i + 1)) (hl : l.length ≤ 100000) :
    Calls Tryd.prog 42 #[.slice A l.length c, .int .i64 i] w fun e w' => e = .returned (.int .i64 (Ptr.depN l i)) ∧ w = w' := by
  obtain ⟨b, off, rfl, _⟩ := hr.at_ hi
  have hT : depI l (i + 1) (i : Int) = Ptr.depN l i := by unfold depI Ptr.depN; rw [if_neg (by omega), Int.toNat_natCast]
  generalize Ptr.depN l i = T at hT
  have HT := Lib.hid hT
  have HR := Kept.mk hR
  have HRD := Kept.mk hr
  clear hr hR hT
  go_enter Tryd.func42, Tryd.ntmps42
  go_wp2
  go_loop [5, 6] (fun n p => ∃ (P : Int) (f N : Nat), p = .int .i64 P ∧ n = .int .i64 N ∧ -1 ≤ P ∧ P ≤ i ∧ P + 1 ≤ f ∧ N + P ≤ i ∧ Hid (N + depI l f P = T)) (fun _ p => (intOf p + 1).toNat)
  case atStart => exact ⟨i, i + 1, 0, rfl, rfl, by omega, by omega, by omega, by omega, by show _ = _; rw [Nat.zero_add]; exact HT.out⟩
  case round =>
    obtain ⟨P, f, N, rfl, rfl, p0, p1, p2, p3, H⟩ := hrel
    by_cases hp : P < 0
    · have h := H.out
      unfold depI at h
      rw [if_pos hp, Nat.add_zero] at h
      have H1 := Lib.hid h
      have hp' : ¬ (0 : Int) ≤ P := by omega
      clear h H hp
      go_wp2
      go_ret
      exact ⟨ret_i64 (by rw [← H1.out]), rfl⟩
    · obtain ⟨p, rfl⟩ : ∃ p : Nat, P = p := ⟨P.toNat, by omega⟩
      obtain ⟨f, rfl⟩ : ∃ g, f = g + 1 := ⟨f - 1, by omega⟩
      have h := H.out
      rw [depI_step] at h
      have hpl : p < l.length := by omega
      obtain ⟨c0, _, _, c3⟩ := HRD.out.cells hpl
      obtain ⟨n0, n1⟩ := HR.out p (by omega)
      simp only at c0 c3
      generalize Ptr.par l p = Q at h c3 n0 n1
      generalize Ptr.kin l p = K at h c0
      have j0 : (0 : Int) ≤ (p : Int) := by omega
      have j1 : (p : Int) < (l.length : Int) := by omega
      have j2 : (N : Int) ≤ 100000 := by omega
      clear H hp
      by_cases h2 : K = 2
      · subst h2
        rw [if_pos rfl, ← Nat.add_assoc] at h
        have H1 := Lib.hid h
        clear h
        go_wp2
        go_round
        case rel => exact ⟨Q, f, N + 1, rfl, by go_num, n0, by omega, by omega, by omega, H1.out⟩
        case measure => simp [intOf]; omega
      · rw [if_neg h2, Nat.zero_add] at h
        have H1 := Lib.hid h
        have e2 : ((K : Int) == 2) = false := by simp; omega
        clear h h2
        go_wp2
        go_round
        case rel => exact ⟨Q, f, N, rfl, rfl, n0, by omega, by omega, by omega, H1.out⟩
        case measure => simp [intOf]; omega
/-- are all nodes ahead of i in order? -/
def opens (l : List Ptr.Nd) : Nat → Bool
  | 0 => true
  | i + 1 => opens l i && Ptr.openB l i
theorem opens_no {l : List Ptr.Nd} {i : Nat} (h : Ptr.openB l i = false) : ∀ n, i < n → opens l n = false
  | 0, hn => by omega
  | n + 1, hn => by
    unfold opens
    by_cases e : i = n
    · subst e; rw [h, Bool.and_false]
    · rw [opens_no h n (by omega), Bool.false_and]
theorem opens_rng {l : List Ptr.Nd} : ∀ {n : Nat}, opens l n = true → Ptr.Rng l n
  | 0, _ => fun k hk => by omega
  | n + 1, h => by
    unfold opens at h
    rw [Bool.and_eq_true] at h
    exact (opens_rng h.1).succ h.2
set_option maxHeartbeats 2000000 in
theorem refInOrder_any (A : Option Addr) (l : List Ptr.Nd) (c : Nat) (w : World) (hr : RdN w A l) (hl : l.length ≤ 100000) :
    Calls Tryd.prog 40 #[.slice A l.length c] w fun e w' => e = .returned (.bool (opens l l.length)) ∧ w = w' := by
  have HRD := Kept.mk hr
  clear hr
  go_enter Tryd.func40, Tryd.ntmps40
  go_wp2
  go_loop [3, 4] (fun i _ => ∃ k : Nat, k ≤ l.length ∧ i = .int .i64 k ∧ Kept (opens l k = true)) (fun i _ => l.length - (intOf i).toNat)
  case atStart => exact ⟨0, by omega, rfl, ⟨rfl⟩⟩
  case round =>
    obtain ⟨i, hi, rfl, HO⟩ := hrel
    have j0 : (0 : Int) ≤ (i : Int) := by omega
    by_cases hlt : i < l.length
    · have j1 : (i : Int) < (l.length : Int) := by omega
      obtain ⟨b, off, rfl, _, _, _, q3⟩ := HRD.out.at_ hlt
      have hT : Ptr.chain l (Ptr.par l i) (i + 1) ((i : Int) - 1) = Ptr.openB l i := rfl
      simp only at q3
      generalize hQ : Ptr.par l i = Q at q3 hT
      generalize hO : Ptr.openB l i = T at hT
      have HT := Lib.hid hT
      have HOP := Kept.mk hO
      have HR := Kept.mk (opens_rng HO.out)
      clear hT hO hQ
      go_wp2
      go_loop [4] (fun p => ∃ (P : Int) (f : Nat), p = .int .i64 P ∧ -1 ≤ P ∧ P < i ∧ P + 2 ≤ f ∧ Hid (Ptr.chain l Q f P = T)) (fun p => (intOf p + 1).toNat)
      case atStart => exact ⟨(i : Int) - 1, i + 1, rfl, by omega, by omega, by omega, HT.out⟩
      case round =>
        obtain ⟨P, f, rfl, p0, p1, p2, H⟩ := hrel
        obtain ⟨f, rfl⟩ : ∃ g, f = g + 1 := ⟨f - 1, by omega⟩
        have h := H.out
        rw [Ptr.chain_at] at h
        by_cases e : P = Q
        · rw [if_pos e] at h
          have hX : Kept (opens l (i + 1) = true) := ⟨by unfold opens; rw [HO.out, HOP.out, ← h]; rfl⟩
          have e1 : (P != Q) = false := by simpa using e
          clear h H e
          go_wp2
          go_round
          case rel => exact ⟨i + 1, by omega, by go_num, hX⟩
          case measure => simp [intOf]; omega
        · rw [if_neg e] at h
          have e1 : (P != Q) = true := by simpa using e
          by_cases hp : P < 0
          · rw [if_pos hp] at h
            have hX : Kept (opens l l.length = false) := ⟨opens_no (HOP.out.trans h.symm) _ hlt⟩
            clear h H e
            go_wp2
            go_ret
            exact ⟨ret_bool (by rw [hX.out]), rfl⟩
          · obtain ⟨p, rfl⟩ : ∃ p : Nat, P = p := ⟨P.toNat, by omega⟩
            rw [if_neg hp, Int.toNat_natCast] at h
            have hpl : p < l.length := by omega
            obtain ⟨_, _, _, c3⟩ := HRD.out.cells hpl
            obtain ⟨n0, n1⟩ := HR.out p (by omega)
            simp only at c3
            generalize Ptr.par l p = N at h c3 n0 n1
            have H1 := Lib.hid h
            have k0 : (0 : Int) ≤ (p : Int) := by omega
            have k1 : (p : Int) < (l.length : Int) := by omega
            have k2 : ¬ (p : Int) < 0 := hp
            clear h H e hp
            go_wp2
            go_round
            case rel => exact ⟨N, f, rfl, n0, by omega, by omega, H1.out⟩
            case measure => simp [intOf]; omega
    · obtain rfl : i = l.length := by omega
      go_wp2
      go_ret
      exact ⟨ret_bool (by rw [HO.out]), rfl⟩
end Go.Proofs.YtkjodleggfacbaaDoor.Wtr
