/- The walk over the document's fits (chapter 06): comments and texts. -/
import Derived.Test.YtkjodleggfacbaaDoorTreeWalksE
namespace Go.Proofs.YtkjodleggfacbaaDoor.Wtr
open Go Go.RowKit Go.Proofs.YtkjodleggfacbaaDoor.Kb

set_option maxRecDepth 100000 in
set_option maxHeartbeats 4000000 in
theorem rfits_5 (A : Option Addr) (l : List Ptr.Nd) (c i : Nat) (w : World) (hr : RdN w A l) (hi : i < l.length) (hP : -1 ≤ Ptr.par l i ∧ Ptr.par l i < i) (_hn : (Ptr.nam l i).length ≤ 4611686018427387904) (hv : (Ptr.val l i).length ≤ 4611686018427387904) (hx : Pch.textsL (Ptr.val l i) = true) (hlen : (Ptr.val l i).length ≤ 65536) (hk : Ptr.kin l i = 5) :
    Calls Tryd.prog 41 #[.slice A l.length c, .int .i64 i] w fun e w' => e = .returned (.bool (insU (upK l (Ptr.par l i)) && decide (Ptr.nam l i = []) && !Ptr.has2 45 45 (Ptr.val l i) && !decide ((Ptr.val l i).getLast? = some 45))) ∧ Below w.heap.size w w' := by
  obtain ⟨b, off, rfl, q0, q1, q2, q3⟩ := hr.at_ hi
  have cP := fun wx hx => refParent_any (some ⟨b, off, none⟩) l c i wx hx hi (by omega)
  have cT := fun wx => texts_call (Ptr.val l i) wx hv
  have HR := Kept.mk hr
  have HP := Kept.mk cP
  have i0 : (0 : Int) ≤ (i : Int) := by omega
  have i1 : (i : Int) < (l.length : Int) := by omega
  simp only at q0 q1 q2 q3
  rw [hx] at cT
  obtain ⟨V, hV⟩ : ∃ V : ByteArray, V = ⟨(Ptr.val l i).toArray⟩ := ⟨_, rfl⟩
  have hVs : V.size = (Ptr.val l i).length := by rw [hV]; show (Ptr.val l i).toArray.size = _; simp
  have hVl : V.toList = Ptr.val l i := by rw [hV, ByteArray.toList_eq]
  have v1 : ¬ (65536 : Int) < (V.size : Int) := by omega
  obtain ⟨X, hX⟩ : ∃ X : ByteArray, X = ⟨(Ptr.nam l i).toArray⟩ := ⟨_, rfl⟩
  have hXl : X.toList = Ptr.nam l i := by rw [hX, ByteArray.toList_eq]
  rw [hk] at q0
  have cH := fun wx => has_call (Ptr.val l i) 45 45 wx hv
  have hB : Ptr.val l i ≠ [] → ∃ (h1 : V.size - 1 < V.size), ((V[V.size - 1].toNat : Int) != 45) = !decide ((Ptr.val l i).getLast? = some 45) := last_byte V (Ptr.val l i) hVl
  have hE : Ptr.val l i = [] → decide ((Ptr.val l i).getLast? = some 45) = false := fun e => by rw [e]; rfl
  rw [← hV] at q2 cT cH
  rw [← hX] at q1
  generalize hU : upK l (Ptr.par l i) = U at cP
  clear HP
  have HP := Kept.mk cP
  have u0 := beq_cast U 0
  have u2 := beq_cast U 2
  have u1 := beq_cast U 1
  change ((U : Int) == 0) = (U == 0) at u0
  change ((U : Int) == 2) = (U == 2) at u2
  change ((U : Int) == 1) = (U == 1) at u1
  unfold insU
  generalize (U == 0) = x0 at u0 ⊢
  generalize (U == 2) = x2 at u2 ⊢
  generalize (U == 1) = x1 at u1 ⊢
  have vE : ∀ z : Bool, decide (Ptr.val l i = []) = z → (if z = true then V.toList = [] else (V.toList == []) = false ∧ V.toList.isEmpty = false) := fun z hz => by
    cases z
    · have h := of_decide_eq_false hz
      rw [← hVl] at h
      exact ⟨by simpa using h, by simpa using h⟩
    · have h := of_decide_eq_true hz
      rw [← hVl] at h
      exact h
  have xE : ∀ z : Bool, decide (Ptr.nam l i = []) = z → (if z = true then X.toList = [] else (X.toList == []) = false ∧ X.toList.isEmpty = false) := fun z hz => by
    cases z
    · have h := of_decide_eq_false hz
      rw [← hXl] at h
      exact ⟨by simpa using h, by simpa using h⟩
    · have h := of_decide_eq_true hz
      rw [← hXl] at h
      exact h
  generalize Ptr.has2 45 45 (Ptr.val l i) = H at cH ⊢
  generalize decide ((Ptr.val l i).getLast? = some 45) = B at hB hE ⊢
  generalize hy : decide (Ptr.nam l i = []) = Y
  have xZ := xE Y hy
  have CT := Kept.mk cT
  have CH := Kept.mk cH
  have VE := Kept.mk vE
  have HBB := Kept.mk hB
  have HE := Kept.mk hE
  clear cP cT cH hr _hn hv hx hV hVs hlen hk hX hXl hU vE hVl hB hE xE hy
  cases x0 with
  | true =>
    cases Y with
    | true =>
      have xz : X.toList = [] := xZ
      clear xZ
      cases H with
      | true =>
        go_enter Tryd.func41, Tryd.ntmps41
        go_wp2_with (first | (go_at_call 51; refine (HP.out _ (HR.out.below (box_below _ _))).mono ?_; rintro e w' ⟨rfl, rfl⟩) | (go_at_call 52; refine (CT.out _).mono ?_; rintro e w' ⟨rfl, rfl⟩) | (go_at_call 56; refine (CH.out _).mono ?_; rintro e w' ⟨rfl, rfl⟩))
        go_ret
        exact ⟨rfl, box_below _ _⟩
      | false =>
        by_cases hz : Ptr.val l i = []
        · have vz : V.toList = [] := VE.out true (decide_eq_true hz)
          obtain rfl : B = false := HE.out hz
          clear hz
          go_enter Tryd.func41, Tryd.ntmps41
          go_wp2_with (first | (go_at_call 51; refine (HP.out _ (HR.out.below (box_below _ _))).mono ?_; rintro e w' ⟨rfl, rfl⟩) | (go_at_call 52; refine (CT.out _).mono ?_; rintro e w' ⟨rfl, rfl⟩) | (go_at_call 56; refine (CH.out _).mono ?_; rintro e w' ⟨rfl, rfl⟩))
          go_ret
          exact ⟨rfl, box_below _ _⟩
        · obtain ⟨vz, vz2⟩ : (V.toList == []) = false ∧ V.toList.isEmpty = false := VE.out false (decide_eq_false hz)
          obtain ⟨z1, zb⟩ := HBB.out hz
          have z2 : (0 : Int) ≤ (V.size : Int) - 1 := by omega
          have z3 : (V.size : Int) - 1 < (V.size : Int) := by omega
          have z4 : ((V.size : Int) - 1).toNat = V.size - 1 := by omega
          clear hz
          cases B
          all_goals
            go_enter Tryd.func41, Tryd.ntmps41
            go_wp2_with (first | (go_at_call 51; refine (HP.out _ (HR.out.below (box_below _ _))).mono ?_; rintro e w' ⟨rfl, rfl⟩) | (go_at_call 52; refine (CT.out _).mono ?_; rintro e w' ⟨rfl, rfl⟩) | (go_at_call 56; refine (CH.out _).mono ?_; rintro e w' ⟨rfl, rfl⟩))
            go_ret
            exact ⟨rfl, box_below _ _⟩
    | false =>
      obtain ⟨xz, xz2⟩ : (X.toList == []) = false ∧ X.toList.isEmpty = false := xZ
      go_enter Tryd.func41, Tryd.ntmps41
      go_wp2_with (first | (go_at_call 51; refine (HP.out _ (HR.out.below (box_below _ _))).mono ?_; rintro e w' ⟨rfl, rfl⟩) | (go_at_call 52; refine (CT.out _).mono ?_; rintro e w' ⟨rfl, rfl⟩) | (go_at_call 56; refine (CH.out _).mono ?_; rintro e w' ⟨rfl, rfl⟩))
      go_ret
      exact ⟨rfl, box_below _ _⟩
  | false =>
    cases x2 with
    | true =>
      cases Y with
      | true =>
        have xz : X.toList = [] := xZ
        clear xZ
        cases H with
        | true =>
          go_enter Tryd.func41, Tryd.ntmps41
          go_wp2_with (first | (go_at_call 51; refine (HP.out _ (HR.out.below (box_below _ _))).mono ?_; rintro e w' ⟨rfl, rfl⟩) | (go_at_call 52; refine (CT.out _).mono ?_; rintro e w' ⟨rfl, rfl⟩) | (go_at_call 56; refine (CH.out _).mono ?_; rintro e w' ⟨rfl, rfl⟩))
          go_ret
          exact ⟨rfl, box_below _ _⟩
        | false =>
          by_cases hz : Ptr.val l i = []
          · have vz : V.toList = [] := VE.out true (decide_eq_true hz)
            obtain rfl : B = false := HE.out hz
            clear hz
            go_enter Tryd.func41, Tryd.ntmps41
            go_wp2_with (first | (go_at_call 51; refine (HP.out _ (HR.out.below (box_below _ _))).mono ?_; rintro e w' ⟨rfl, rfl⟩) | (go_at_call 52; refine (CT.out _).mono ?_; rintro e w' ⟨rfl, rfl⟩) | (go_at_call 56; refine (CH.out _).mono ?_; rintro e w' ⟨rfl, rfl⟩))
            go_ret
            exact ⟨rfl, box_below _ _⟩
          · obtain ⟨vz, vz2⟩ : (V.toList == []) = false ∧ V.toList.isEmpty = false := VE.out false (decide_eq_false hz)
            obtain ⟨z1, zb⟩ := HBB.out hz
            have z2 : (0 : Int) ≤ (V.size : Int) - 1 := by omega
            have z3 : (V.size : Int) - 1 < (V.size : Int) := by omega
            have z4 : ((V.size : Int) - 1).toNat = V.size - 1 := by omega
            clear hz
            cases B
            all_goals
              go_enter Tryd.func41, Tryd.ntmps41
              go_wp2_with (first | (go_at_call 51; refine (HP.out _ (HR.out.below (box_below _ _))).mono ?_; rintro e w' ⟨rfl, rfl⟩) | (go_at_call 52; refine (CT.out _).mono ?_; rintro e w' ⟨rfl, rfl⟩) | (go_at_call 56; refine (CH.out _).mono ?_; rintro e w' ⟨rfl, rfl⟩))
              go_ret
              exact ⟨rfl, box_below _ _⟩
      | false =>
        obtain ⟨xz, xz2⟩ : (X.toList == []) = false ∧ X.toList.isEmpty = false := xZ
        go_enter Tryd.func41, Tryd.ntmps41
        go_wp2_with (first | (go_at_call 51; refine (HP.out _ (HR.out.below (box_below _ _))).mono ?_; rintro e w' ⟨rfl, rfl⟩) | (go_at_call 52; refine (CT.out _).mono ?_; rintro e w' ⟨rfl, rfl⟩) | (go_at_call 56; refine (CH.out _).mono ?_; rintro e w' ⟨rfl, rfl⟩))
        go_ret
        exact ⟨rfl, box_below _ _⟩
    | false =>
      cases x1 with
      | true =>
        cases Y with
        | true =>
          have xz : X.toList = [] := xZ
          clear xZ
          cases H with
          | true =>
            go_enter Tryd.func41, Tryd.ntmps41
            go_wp2_with (first | (go_at_call 51; refine (HP.out _ (HR.out.below (box_below _ _))).mono ?_; rintro e w' ⟨rfl, rfl⟩) | (go_at_call 52; refine (CT.out _).mono ?_; rintro e w' ⟨rfl, rfl⟩) | (go_at_call 56; refine (CH.out _).mono ?_; rintro e w' ⟨rfl, rfl⟩))
            go_ret
            exact ⟨rfl, box_below _ _⟩
          | false =>
            by_cases hz : Ptr.val l i = []
            · have vz : V.toList = [] := VE.out true (decide_eq_true hz)
              obtain rfl : B = false := HE.out hz
              clear hz
              go_enter Tryd.func41, Tryd.ntmps41
              go_wp2_with (first | (go_at_call 51; refine (HP.out _ (HR.out.below (box_below _ _))).mono ?_; rintro e w' ⟨rfl, rfl⟩) | (go_at_call 52; refine (CT.out _).mono ?_; rintro e w' ⟨rfl, rfl⟩) | (go_at_call 56; refine (CH.out _).mono ?_; rintro e w' ⟨rfl, rfl⟩))
              go_ret
              exact ⟨rfl, box_below _ _⟩
            · obtain ⟨vz, vz2⟩ : (V.toList == []) = false ∧ V.toList.isEmpty = false := VE.out false (decide_eq_false hz)
              obtain ⟨z1, zb⟩ := HBB.out hz
              have z2 : (0 : Int) ≤ (V.size : Int) - 1 := by omega
              have z3 : (V.size : Int) - 1 < (V.size : Int) := by omega
              have z4 : ((V.size : Int) - 1).toNat = V.size - 1 := by omega
              clear hz
              cases B
              all_goals
                go_enter Tryd.func41, Tryd.ntmps41
                go_wp2_with (first | (go_at_call 51; refine (HP.out _ (HR.out.below (box_below _ _))).mono ?_; rintro e w' ⟨rfl, rfl⟩) | (go_at_call 52; refine (CT.out _).mono ?_; rintro e w' ⟨rfl, rfl⟩) | (go_at_call 56; refine (CH.out _).mono ?_; rintro e w' ⟨rfl, rfl⟩))
                go_ret
                exact ⟨rfl, box_below _ _⟩
        | false =>
          obtain ⟨xz, xz2⟩ : (X.toList == []) = false ∧ X.toList.isEmpty = false := xZ
          go_enter Tryd.func41, Tryd.ntmps41
          go_wp2_with (first | (go_at_call 51; refine (HP.out _ (HR.out.below (box_below _ _))).mono ?_; rintro e w' ⟨rfl, rfl⟩) | (go_at_call 52; refine (CT.out _).mono ?_; rintro e w' ⟨rfl, rfl⟩) | (go_at_call 56; refine (CH.out _).mono ?_; rintro e w' ⟨rfl, rfl⟩))
          go_ret
          exact ⟨rfl, box_below _ _⟩
      | false =>
        go_enter Tryd.func41, Tryd.ntmps41
        go_wp2_with (first | (go_at_call 51; refine (HP.out _ (HR.out.below (box_below _ _))).mono ?_; rintro e w' ⟨rfl, rfl⟩) | (go_at_call 52; refine (CT.out _).mono ?_; rintro e w' ⟨rfl, rfl⟩) | (go_at_call 56; refine (CH.out _).mono ?_; rintro e w' ⟨rfl, rfl⟩))
        go_ret
        exact ⟨rfl, box_below _ _⟩
set_option maxRecDepth 100000 in
set_option maxHeartbeats 4000000 in
theorem rfits_4 (A : Option Addr) (l : List Ptr.Nd) (c i : Nat) (w : World) (hr : RdN w A l) (hi : i < l.length) (hP : -1 ≤ Ptr.par l i ∧ Ptr.par l i < i) (_hn : (Ptr.nam l i).length ≤ 4611686018427387904) (hv : (Ptr.val l i).length ≤ 4611686018427387904) (hRg : Ptr.Rng l i) (hl : l.length ≤ 100000) (hx : Pch.textsL (Ptr.val l i) = true) (hlen : (Ptr.val l i).length ≤ 65536) (hk : Ptr.kin l i = 4) :
    Calls Tryd.prog 41 #[.slice A l.length c, .int .i64 i] w fun e w' => e = .returned (.bool ((upK l (Ptr.par l i) == 0 || upK l (Ptr.par l i) == 2) && decide (Ptr.nam l i = []) && !decide (Ptr.val l i = []) && (decide (Ptr.lastC l (Ptr.par l i) i < 0) || !decide (Ptr.kin l (Ptr.lastC l (Ptr.par l i) i).toNat = 4)))) ∧ Below w.heap.size w w' := by
  obtain ⟨b, off, rfl, q0, q1, q2, q3⟩ := hr.at_ hi
  have cP := fun wx hx => refParent_any (some ⟨b, off, none⟩) l c i wx hx hi (by omega)
  have cT := fun wx => texts_call (Ptr.val l i) wx hv
  have HR := Kept.mk hr
  have HP := Kept.mk cP
  have i0 : (0 : Int) ≤ (i : Int) := by omega
  have i1 : (i : Int) < (l.length : Int) := by omega
  simp only at q0 q1 q2 q3
  rw [hx] at cT
  obtain ⟨V, hV⟩ : ∃ V : ByteArray, V = ⟨(Ptr.val l i).toArray⟩ := ⟨_, rfl⟩
  have hVs : V.size = (Ptr.val l i).length := by rw [hV]; show (Ptr.val l i).toArray.size = _; simp
  have hVl : V.toList = Ptr.val l i := by rw [hV, ByteArray.toList_eq]
  have v1 : ¬ (65536 : Int) < (V.size : Int) := by omega
  obtain ⟨X, hX⟩ : ∃ X : ByteArray, X = ⟨(Ptr.nam l i).toArray⟩ := ⟨_, rfl⟩
  have hXl : X.toList = Ptr.nam l i := by rw [hX, ByteArray.toList_eq]
  rw [hk] at q0
  have cS := fun wx hx => refSibling_any (some ⟨b, off, none⟩) l c i wx hx hi hRg hP.1 hl
  have hL := Ptr.lastC_lt l (Ptr.par l i) i
  have hLc : ∀ k : Nat, Ptr.lastC l (Ptr.par l i) i = k → ∀ wx, Below w.heap.size w wx → wx.cell? ⟨b, off + k * 4, none⟩ = some (.int .u8 (Ptr.kin l k)) := fun k e wx hx => ((hr.below hx).cells (i := k) (by omega)).1
  rw [← hV] at q2 cT
  rw [← hX] at q1
  generalize Ptr.lastC l (Ptr.par l i) i = L at cS hL hLc ⊢
  generalize hU : upK l (Ptr.par l i) = U at cP
  clear HP
  have HP := Kept.mk cP
  have u0 := beq_cast U 0
  have u2 := beq_cast U 2
  have u1 := beq_cast U 1
  change ((U : Int) == 0) = (U == 0) at u0
  change ((U : Int) == 2) = (U == 2) at u2
  change ((U : Int) == 1) = (U == 1) at u1
  generalize (U == 0) = x0 at u0 ⊢
  generalize (U == 2) = x2 at u2 ⊢
  generalize (U == 1) = x1 at u1 ⊢
  have vE : ∀ z : Bool, decide (Ptr.val l i = []) = z → (if z = true then V.toList = [] else (V.toList == []) = false ∧ V.toList.isEmpty = false) := fun z hz => by
    cases z
    · have h := of_decide_eq_false hz
      rw [← hVl] at h
      exact ⟨by simpa using h, by simpa using h⟩
    · have h := of_decide_eq_true hz
      rw [← hVl] at h
      exact h
  have xE : ∀ z : Bool, decide (Ptr.nam l i = []) = z → (if z = true then X.toList = [] else (X.toList == []) = false ∧ X.toList.isEmpty = false) := fun z hz => by
    cases z
    · have h := of_decide_eq_false hz
      rw [← hXl] at h
      exact ⟨by simpa using h, by simpa using h⟩
    · have h := of_decide_eq_true hz
      rw [← hXl] at h
      exact h
  generalize hz : decide (Ptr.val l i = []) = Z
  have vZ := vE Z hz
  generalize hy : decide (Ptr.nam l i = []) = Y
  have xZ := xE Y hy
  have CT := Kept.mk cT
  have CS := Kept.mk cS
  clear cP cT cS hr _hn hv hx hV hVs hlen hk hX hXl hU vE hz hVl xE hy
  by_cases hneg : L < 0
  · have DL : Kept (∀ wx, Below w.heap.size w wx → True) := ⟨fun _ _ => trivial⟩
    rw [decide_eq_true hneg, Bool.true_or]
    clear hLc hl
    cases x0 with
    | true =>
      cases Y with
      | true =>
        have xz : X.toList = [] := xZ
        clear xZ
        cases Z with
        | true =>
          have vz : V.toList = [] := vZ
          clear vZ
          go_enter Tryd.func41, Tryd.ntmps41
          go_wp2_with (first | (go_at_call 51; refine (HP.out _ (HR.out.below (box_below _ _))).mono ?_; rintro e w' ⟨rfl, rfl⟩) | (go_at_call 52; refine (CT.out _).mono ?_; rintro e w' ⟨rfl, rfl⟩) | (go_at_call 55; refine (CS.out _ (HR.out.below (box_below _ _))).mono ?_; rintro e w2 ⟨rfl, hb2⟩; obtain ⟨d0, d1, d2, d3⟩ := box4 hb2; have dL := DL.out _ ((box_below _ _).trans (hb2.mono (box_below _ _).size))))
          go_ret
          exact ⟨rfl, (box_below _ _).trans (hb2.mono (box_below _ _).size)⟩
        | false =>
          obtain ⟨vz, vz2⟩ : (V.toList == []) = false ∧ V.toList.isEmpty = false := vZ
          go_enter Tryd.func41, Tryd.ntmps41
          go_wp2_with (first | (go_at_call 51; refine (HP.out _ (HR.out.below (box_below _ _))).mono ?_; rintro e w' ⟨rfl, rfl⟩) | (go_at_call 52; refine (CT.out _).mono ?_; rintro e w' ⟨rfl, rfl⟩) | (go_at_call 55; refine (CS.out _ (HR.out.below (box_below _ _))).mono ?_; rintro e w2 ⟨rfl, hb2⟩; obtain ⟨d0, d1, d2, d3⟩ := box4 hb2; have dL := DL.out _ ((box_below _ _).trans (hb2.mono (box_below _ _).size))))
          go_ret
          exact ⟨rfl, (box_below _ _).trans (hb2.mono (box_below _ _).size)⟩
      | false =>
        obtain ⟨xz, xz2⟩ : (X.toList == []) = false ∧ X.toList.isEmpty = false := xZ
        go_enter Tryd.func41, Tryd.ntmps41
        go_wp2_with (first | (go_at_call 51; refine (HP.out _ (HR.out.below (box_below _ _))).mono ?_; rintro e w' ⟨rfl, rfl⟩) | (go_at_call 52; refine (CT.out _).mono ?_; rintro e w' ⟨rfl, rfl⟩) | (go_at_call 55; refine (CS.out _ (HR.out.below (box_below _ _))).mono ?_; rintro e w2 ⟨rfl, hb2⟩; obtain ⟨d0, d1, d2, d3⟩ := box4 hb2; have dL := DL.out _ ((box_below _ _).trans (hb2.mono (box_below _ _).size))))
        go_ret
        exact ⟨rfl, (box_below _ _).trans (hb2.mono (box_below _ _).size)⟩
    | false =>
      cases x2 with
      | true =>
        cases Y with
        | true =>
          have xz : X.toList = [] := xZ
          clear xZ
          cases Z with
          | true =>
            have vz : V.toList = [] := vZ
            clear vZ
            go_enter Tryd.func41, Tryd.ntmps41
            go_wp2_with (first | (go_at_call 51; refine (HP.out _ (HR.out.below (box_below _ _))).mono ?_; rintro e w' ⟨rfl, rfl⟩) | (go_at_call 52; refine (CT.out _).mono ?_; rintro e w' ⟨rfl, rfl⟩) | (go_at_call 55; refine (CS.out _ (HR.out.below (box_below _ _))).mono ?_; rintro e w2 ⟨rfl, hb2⟩; obtain ⟨d0, d1, d2, d3⟩ := box4 hb2; have dL := DL.out _ ((box_below _ _).trans (hb2.mono (box_below _ _).size))))
            go_ret
            exact ⟨rfl, (box_below _ _).trans (hb2.mono (box_below _ _).size)⟩
          | false =>
            obtain ⟨vz, vz2⟩ : (V.toList == []) = false ∧ V.toList.isEmpty = false := vZ
            go_enter Tryd.func41, Tryd.ntmps41
            go_wp2_with (first | (go_at_call 51; refine (HP.out _ (HR.out.below (box_below _ _))).mono ?_; rintro e w' ⟨rfl, rfl⟩) | (go_at_call 52; refine (CT.out _).mono ?_; rintro e w' ⟨rfl, rfl⟩) | (go_at_call 55; refine (CS.out _ (HR.out.below (box_below _ _))).mono ?_; rintro e w2 ⟨rfl, hb2⟩; obtain ⟨d0, d1, d2, d3⟩ := box4 hb2; have dL := DL.out _ ((box_below _ _).trans (hb2.mono (box_below _ _).size))))
            go_ret
            exact ⟨rfl, (box_below _ _).trans (hb2.mono (box_below _ _).size)⟩
        | false =>
          obtain ⟨xz, xz2⟩ : (X.toList == []) = false ∧ X.toList.isEmpty = false := xZ
          go_enter Tryd.func41, Tryd.ntmps41
          go_wp2_with (first | (go_at_call 51; refine (HP.out _ (HR.out.below (box_below _ _))).mono ?_; rintro e w' ⟨rfl, rfl⟩) | (go_at_call 52; refine (CT.out _).mono ?_; rintro e w' ⟨rfl, rfl⟩) | (go_at_call 55; refine (CS.out _ (HR.out.below (box_below _ _))).mono ?_; rintro e w2 ⟨rfl, hb2⟩; obtain ⟨d0, d1, d2, d3⟩ := box4 hb2; have dL := DL.out _ ((box_below _ _).trans (hb2.mono (box_below _ _).size))))
          go_ret
          exact ⟨rfl, (box_below _ _).trans (hb2.mono (box_below _ _).size)⟩
      | false =>
        cases x1
        all_goals
          go_enter Tryd.func41, Tryd.ntmps41
          go_wp2_with (first | (go_at_call 51; refine (HP.out _ (HR.out.below (box_below _ _))).mono ?_; rintro e w' ⟨rfl, rfl⟩) | (go_at_call 52; refine (CT.out _).mono ?_; rintro e w' ⟨rfl, rfl⟩) | (go_at_call 55; refine (CS.out _ (HR.out.below (box_below _ _))).mono ?_; rintro e w2 ⟨rfl, hb2⟩; obtain ⟨d0, d1, d2, d3⟩ := box4 hb2; have dL := DL.out _ ((box_below _ _).trans (hb2.mono (box_below _ _).size))))
          go_ret
          exact ⟨rfl, (box_below _ _).trans (hb2.mono (box_below _ _).size)⟩
  · obtain ⟨k, rfl⟩ : ∃ k : Nat, L = k := ⟨L.toNat, by omega⟩
    have DL := Kept.mk (hLc k rfl)
    rw [decide_eq_false hneg, Bool.false_or, Int.toNat_natCast]
    have k0 : (0 : Int) ≤ (k : Int) := by omega
    have k1 : (k : Int) < (l.length : Int) := by omega
    have k2 : ¬ (k : Int) < 0 := hneg
    have f4 := beq_cast (Ptr.kin l k) 4
    change ((Ptr.kin l k : Int) == 4) = (Ptr.kin l k == 4) at f4
    have f5 : decide (Ptr.kin l k = 4) = (Ptr.kin l k == 4) := by rw [Bool.eq_iff_iff]; simp
    rw [f5]
    generalize Ptr.kin l k = Q at DL f4 ⊢
    clear f5 hLc hneg hl
    generalize hq4 : (Q == 4) = q4 at f4 ⊢
    clear hq4
    cases x0 with
    | true =>
      cases Y with
      | true =>
        have xz : X.toList = [] := xZ
        clear xZ
        cases Z with
        | true =>
          have vz : V.toList = [] := vZ
          clear vZ
          go_enter Tryd.func41, Tryd.ntmps41
          go_wp2_with (first | (go_at_call 51; refine (HP.out _ (HR.out.below (box_below _ _))).mono ?_; rintro e w' ⟨rfl, rfl⟩) | (go_at_call 52; refine (CT.out _).mono ?_; rintro e w' ⟨rfl, rfl⟩) | (go_at_call 55; refine (CS.out _ (HR.out.below (box_below _ _))).mono ?_; rintro e w2 ⟨rfl, hb2⟩; obtain ⟨d0, d1, d2, d3⟩ := box4 hb2; have dL := DL.out _ ((box_below _ _).trans (hb2.mono (box_below _ _).size))))
          go_ret
          exact ⟨rfl, (box_below _ _).trans (hb2.mono (box_below _ _).size)⟩
        | false =>
          obtain ⟨vz, vz2⟩ : (V.toList == []) = false ∧ V.toList.isEmpty = false := vZ
          cases q4 with
          | true =>
            have f6 : ((Q : Int) != 4) = false := by rw [bne, f4]; rfl
            go_enter Tryd.func41, Tryd.ntmps41
            go_wp2_with (first | (go_at_call 51; refine (HP.out _ (HR.out.below (box_below _ _))).mono ?_; rintro e w' ⟨rfl, rfl⟩) | (go_at_call 52; refine (CT.out _).mono ?_; rintro e w' ⟨rfl, rfl⟩) | (go_at_call 55; refine (CS.out _ (HR.out.below (box_below _ _))).mono ?_; rintro e w2 ⟨rfl, hb2⟩; obtain ⟨d0, d1, d2, d3⟩ := box4 hb2; have dL := DL.out _ ((box_below _ _).trans (hb2.mono (box_below _ _).size))))
            go_ret
            exact ⟨rfl, (box_below _ _).trans (hb2.mono (box_below _ _).size)⟩
          | false =>
            have f6 : ((Q : Int) != 4) = true := by rw [bne, f4]; rfl
            go_enter Tryd.func41, Tryd.ntmps41
            go_wp2_with (first | (go_at_call 51; refine (HP.out _ (HR.out.below (box_below _ _))).mono ?_; rintro e w' ⟨rfl, rfl⟩) | (go_at_call 52; refine (CT.out _).mono ?_; rintro e w' ⟨rfl, rfl⟩) | (go_at_call 55; refine (CS.out _ (HR.out.below (box_below _ _))).mono ?_; rintro e w2 ⟨rfl, hb2⟩; obtain ⟨d0, d1, d2, d3⟩ := box4 hb2; have dL := DL.out _ ((box_below _ _).trans (hb2.mono (box_below _ _).size))))
            go_ret
            exact ⟨rfl, (box_below _ _).trans (hb2.mono (box_below _ _).size)⟩
      | false =>
        obtain ⟨xz, xz2⟩ : (X.toList == []) = false ∧ X.toList.isEmpty = false := xZ
        go_enter Tryd.func41, Tryd.ntmps41
        go_wp2_with (first | (go_at_call 51; refine (HP.out _ (HR.out.below (box_below _ _))).mono ?_; rintro e w' ⟨rfl, rfl⟩) | (go_at_call 52; refine (CT.out _).mono ?_; rintro e w' ⟨rfl, rfl⟩) | (go_at_call 55; refine (CS.out _ (HR.out.below (box_below _ _))).mono ?_; rintro e w2 ⟨rfl, hb2⟩; obtain ⟨d0, d1, d2, d3⟩ := box4 hb2; have dL := DL.out _ ((box_below _ _).trans (hb2.mono (box_below _ _).size))))
        go_ret
        exact ⟨rfl, (box_below _ _).trans (hb2.mono (box_below _ _).size)⟩
    | false =>
      cases x2 with
      | true =>
        cases Y with
        | true =>
          have xz : X.toList = [] := xZ
          clear xZ
          cases Z with
          | true =>
            have vz : V.toList = [] := vZ
            clear vZ
            go_enter Tryd.func41, Tryd.ntmps41
            go_wp2_with (first | (go_at_call 51; refine (HP.out _ (HR.out.below (box_below _ _))).mono ?_; rintro e w' ⟨rfl, rfl⟩) | (go_at_call 52; refine (CT.out _).mono ?_; rintro e w' ⟨rfl, rfl⟩) | (go_at_call 55; refine (CS.out _ (HR.out.below (box_below _ _))).mono ?_; rintro e w2 ⟨rfl, hb2⟩; obtain ⟨d0, d1, d2, d3⟩ := box4 hb2; have dL := DL.out _ ((box_below _ _).trans (hb2.mono (box_below _ _).size))))
            go_ret
            exact ⟨rfl, (box_below _ _).trans (hb2.mono (box_below _ _).size)⟩
          | false =>
            obtain ⟨vz, vz2⟩ : (V.toList == []) = false ∧ V.toList.isEmpty = false := vZ
            cases q4 with
            | true =>
              have f6 : ((Q : Int) != 4) = false := by rw [bne, f4]; rfl
              go_enter Tryd.func41, Tryd.ntmps41
              go_wp2_with (first | (go_at_call 51; refine (HP.out _ (HR.out.below (box_below _ _))).mono ?_; rintro e w' ⟨rfl, rfl⟩) | (go_at_call 52; refine (CT.out _).mono ?_; rintro e w' ⟨rfl, rfl⟩) | (go_at_call 55; refine (CS.out _ (HR.out.below (box_below _ _))).mono ?_; rintro e w2 ⟨rfl, hb2⟩; obtain ⟨d0, d1, d2, d3⟩ := box4 hb2; have dL := DL.out _ ((box_below _ _).trans (hb2.mono (box_below _ _).size))))
              go_ret
              exact ⟨rfl, (box_below _ _).trans (hb2.mono (box_below _ _).size)⟩
            | false =>
              have f6 : ((Q : Int) != 4) = true := by rw [bne, f4]; rfl
              go_enter Tryd.func41, Tryd.ntmps41
              go_wp2_with (first | (go_at_call 51; refine (HP.out _ (HR.out.below (box_below _ _))).mono ?_; rintro e w' ⟨rfl, rfl⟩) | (go_at_call 52; refine (CT.out _).mono ?_; rintro e w' ⟨rfl, rfl⟩) | (go_at_call 55; refine (CS.out _ (HR.out.below (box_below _ _))).mono ?_; rintro e w2 ⟨rfl, hb2⟩; obtain ⟨d0, d1, d2, d3⟩ := box4 hb2; have dL := DL.out _ ((box_below _ _).trans (hb2.mono (box_below _ _).size))))
              go_ret
              exact ⟨rfl, (box_below _ _).trans (hb2.mono (box_below _ _).size)⟩
        | false =>
          obtain ⟨xz, xz2⟩ : (X.toList == []) = false ∧ X.toList.isEmpty = false := xZ
          go_enter Tryd.func41, Tryd.ntmps41
          go_wp2_with (first | (go_at_call 51; refine (HP.out _ (HR.out.below (box_below _ _))).mono ?_; rintro e w' ⟨rfl, rfl⟩) | (go_at_call 52; refine (CT.out _).mono ?_; rintro e w' ⟨rfl, rfl⟩) | (go_at_call 55; refine (CS.out _ (HR.out.below (box_below _ _))).mono ?_; rintro e w2 ⟨rfl, hb2⟩; obtain ⟨d0, d1, d2, d3⟩ := box4 hb2; have dL := DL.out _ ((box_below _ _).trans (hb2.mono (box_below _ _).size))))
          go_ret
          exact ⟨rfl, (box_below _ _).trans (hb2.mono (box_below _ _).size)⟩
      | false =>
        cases x1
        all_goals
          go_enter Tryd.func41, Tryd.ntmps41
          go_wp2_with (first | (go_at_call 51; refine (HP.out _ (HR.out.below (box_below _ _))).mono ?_; rintro e w' ⟨rfl, rfl⟩) | (go_at_call 52; refine (CT.out _).mono ?_; rintro e w' ⟨rfl, rfl⟩) | (go_at_call 55; refine (CS.out _ (HR.out.below (box_below _ _))).mono ?_; rintro e w2 ⟨rfl, hb2⟩; obtain ⟨d0, d1, d2, d3⟩ := box4 hb2; have dL := DL.out _ ((box_below _ _).trans (hb2.mono (box_below _ _).size))))
          go_ret
          exact ⟨rfl, (box_below _ _).trans (hb2.mono (box_below _ _).size)⟩
end Go.Proofs.YtkjodleggfacbaaDoor.Wtr
