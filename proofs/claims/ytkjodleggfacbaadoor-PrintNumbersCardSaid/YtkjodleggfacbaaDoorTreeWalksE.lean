/- The walk over the document's fits (chapter 06). -/
import Derived.Test.YtkjodleggfacbaaDoorTreeWalksD
namespace Go.Proofs.YtkjodleggfacbaaDoor.Wtr
open Go Go.RowKit Go.Proofs.YtkjodleggfacbaaDoor.Kb

def insU (U : Nat) : Bool := U == 0 || U == 2 || U == 1
def refK (l : List Ptr.Nd) (i : Nat) : Bool :=
  if Ptr.kin l i = 1 then i == 0 && decide (Ptr.nam l i = []) && decide (Ptr.val l i = [])
  else if Ptr.kin l i = 2 then insU (upK l (Ptr.par l i)) && Pch.nameL (Ptr.nam l i) && decide (Ptr.val l i = [])
  else if Ptr.kin l i = 3 then refAttrB l i
  else if Ptr.kin l i = 4 then (upK l (Ptr.par l i) == 0 || upK l (Ptr.par l i) == 2) && decide (Ptr.nam l i = []) && !decide (Ptr.val l i = []) && (decide (Ptr.lastC l (Ptr.par l i) i < 0) || !decide (Ptr.kin l (Ptr.lastC l (Ptr.par l i) i).toNat = 4))
  else if Ptr.kin l i = 5 then insU (upK l (Ptr.par l i)) && decide (Ptr.nam l i = []) && !Ptr.has2 45 45 (Ptr.val l i) && !decide ((Ptr.val l i).getLast? = some 45)
  else if Ptr.kin l i = 6 then insU (upK l (Ptr.par l i)) && Pch.nameL (Ptr.nam l i) && !Ptr.isXml (Ptr.nam l i) && !Ptr.has2 63 62 (Ptr.val l i) && Ptr.noBlank (Ptr.val l i)
  else false
def refFitsB (l : List Ptr.Nd) (i : Nat) : Bool := Pch.textsL (Ptr.val l i) && decide ((Ptr.val l i).length ≤ 65536) && refK l i
theorem has_call (x : List UInt8) (a b : UInt8) (w : World) (hx : x.length ≤ 4611686018427387904) : Calls Tryd.prog 56 #[.string ⟨x.toArray⟩, .string ⟨#[a, b]⟩] w fun e w' => e = .returned (.bool (Ptr.has2 a b x)) ∧ w = w' := by
  have h := refHas_any ⟨x.toArray⟩ ⟨#[a, b]⟩ a b w (by show x.toArray.size ≤ _; simpa using hx) rfl (by rw [ByteArray.toList_eq])
  simpa using h
theorem xml_call (x : List UInt8) (w : World) : Calls Tryd.prog 57 #[.string ⟨x.toArray⟩] w fun e w' => e = .returned (.bool (Ptr.isXml x)) ∧ w = w' := by
  have h := refXml_any ⟨x.toArray⟩ w
  simpa using h
theorem box_below (w : World) (o : Obj) : Below w.heap.size w (w.alloc o) := (Below.refl _ _).alloc (Nat.le_refl _) o
theorem blank_head (V : ByteArray) (x : List UInt8) (h : V.toList = x) (hne : x ≠ []) : ∃ B, Ptr.noBlank x = !B ∧ 1 ≤ V.size ∧ ∀ wx, Calls Tryd.prog 58 #[.string (V.extract 0 1)] wx fun e w' => e = .returned (.bool B) ∧ wx = w' := by
  rw [ByteArray.toList_eq] at h
  have hl : V.data.toList.length = V.size := by rw [Array.length_toList]; rfl
  cases x with
  | nil => exact absurd rfl hne
  | cons c r =>
    refine ⟨Pch.blankC c, rfl, by rw [← hl, h]; simp, fun wx => ?_⟩
    have h1 := Wch.refBlank_any (V.extract 0 1) wx (by rw [ByteArray.size_extract]; omega)
    rw [Lib.extract_data, h] at h1
    simpa [Pch.blankL] using h1
theorem last_byte (V : ByteArray) (x : List UInt8) (h : V.toList = x) (hne : x ≠ []) : ∃ (h1 : V.size - 1 < V.size), ((V[V.size - 1].toNat : Int) != 45) = !decide (x.getLast? = some 45) := by
  rw [ByteArray.toList_eq] at h
  have hl : V.data.toList.length = V.size := by rw [Array.length_toList]; rfl
  have hp : 0 < x.length := List.length_pos_iff.2 hne
  have h1 : V.size - 1 < V.size := by rw [← hl, h]; omega
  refine ⟨h1, ?_⟩
  have e : x.getLast? = some V[V.size - 1] := by
    rw [← h, List.getLast?_eq_getElem?, hl, List.getElem?_eq_getElem (by omega)]
    rfl
  rw [e, Bool.eq_iff_iff]
  simp only [Option.some.injEq, Bool.not_eq_true', decide_eq_false_iff_not, bne_iff_ne, ne_eq]
  constructor
  · intro h2 h3
    exact h2 (by rw [h3]; decide)
  · intro h2 h3
    apply h2
    apply UInt8.toNat_inj.1
    have : (45 : UInt8).toNat = 45 := rfl
    omega
theorem box4 {w w2 : World} {a b c d : Value} {t : TypeId} (hb : Below (w.alloc (.cells #[a, b, c, d] t)).heap.size (w.alloc (.cells #[a, b, c, d] t)) w2) : w2.cell? ⟨w.heap.size, 0, none⟩ = some a ∧ w2.cell? ⟨w.heap.size, 1, none⟩ = some b ∧ w2.cell? ⟨w.heap.size, 2, none⟩ = some c ∧ w2.cell? ⟨w.heap.size, 3, none⟩ = some d := by
  refine ⟨cell_keep hb ?_, cell_keep hb ?_, cell_keep hb ?_, cell_keep hb ?_⟩ <;> (rw [World.cell?_alloc_new]; rfl)
theorem beq_cast (U n : Nat) : ((U : Int) == (n : Int)) = (U == n) := by rw [Bool.eq_iff_iff, beq_iff_eq, beq_iff_eq]; omega

set_option maxRecDepth 100000 in
set_option maxHeartbeats 4000000 in
theorem rfits_notext (A : Option Addr) (l : List Ptr.Nd) (c i : Nat) (w : World) (hr : RdN w A l) (hi : i < l.length) (hP : -1 ≤ Ptr.par l i ∧ Ptr.par l i < i) (_hn : (Ptr.nam l i).length ≤ 4611686018427387904) (hv : (Ptr.val l i).length ≤ 4611686018427387904) (hx : Pch.textsL (Ptr.val l i) = false) :
    Calls Tryd.prog 41 #[.slice A l.length c, .int .i64 i] w fun e w' => e = .returned (.bool (false)) ∧ Below w.heap.size w w' := by
  obtain ⟨b, off, rfl, q0, q1, q2, q3⟩ := hr.at_ hi
  have cP := fun wx hx => refParent_any (some ⟨b, off, none⟩) l c i wx hx hi (by omega)
  have cT := fun wx => texts_call (Ptr.val l i) wx hv
  have HR := Kept.mk hr
  have HP := Kept.mk cP
  have i0 : (0 : Int) ≤ (i : Int) := by omega
  have i1 : (i : Int) < (l.length : Int) := by omega
  simp only at q0 q1 q2 q3
  rw [hx] at cT
  have CT := Kept.mk cT
  clear cP cT hr _hn hv hx
  go_enter Tryd.func41, Tryd.ntmps41
  go_wp2_with (first | (go_at_call 51; refine (HP.out _ (HR.out.below (box_below _ _))).mono ?_; rintro e w' ⟨rfl, rfl⟩) | (go_at_call 52; refine (CT.out _).mono ?_; rintro e w' ⟨rfl, rfl⟩))
  go_ret
  exact ⟨rfl, box_below _ _⟩
set_option maxRecDepth 100000 in
set_option maxHeartbeats 4000000 in
theorem rfits_long (A : Option Addr) (l : List Ptr.Nd) (c i : Nat) (w : World) (hr : RdN w A l) (hi : i < l.length) (hP : -1 ≤ Ptr.par l i ∧ Ptr.par l i < i) (_hn : (Ptr.nam l i).length ≤ 4611686018427387904) (hv : (Ptr.val l i).length ≤ 4611686018427387904) (hx : Pch.textsL (Ptr.val l i) = true) (hlen : 65536 < (Ptr.val l i).length) :
    Calls Tryd.prog 41 #[.slice A l.length c, .int .i64 i] w fun e w' => e = .returned (.bool (false)) ∧ Below w.heap.size w w' := by
  obtain ⟨b, off, rfl, q0, q1, q2, q3⟩ := hr.at_ hi
  have cP := fun wx hx => refParent_any (some ⟨b, off, none⟩) l c i wx hx hi (by omega)
  have cT := fun wx => texts_call (Ptr.val l i) wx hv
  have HR := Kept.mk hr
  have HP := Kept.mk cP
  have i0 : (0 : Int) ≤ (i : Int) := by omega
  have i1 : (i : Int) < (l.length : Int) := by omega
  simp only at q0 q1 q2 q3
  rw [hx] at cT
  obtain ⟨V, hV⟩ : ∃ V : ByteArray, V = ⟨(Ptr.val l i).toArray⟩ := ⟨_, rfl⟩
  have hVs : V.size = (Ptr.val l i).length := by rw [hV]; show (Ptr.val l i).toArray.size = _; simp
  have v1 : (65536 : Int) < (V.size : Int) := by omega
  rw [← hV] at q2 cT
  have CT := Kept.mk cT
  clear cP cT hr _hn hv hx hV hVs hlen
  go_enter Tryd.func41, Tryd.ntmps41
  go_wp2_with (first | (go_at_call 51; refine (HP.out _ (HR.out.below (box_below _ _))).mono ?_; rintro e w' ⟨rfl, rfl⟩) | (go_at_call 52; refine (CT.out _).mono ?_; rintro e w' ⟨rfl, rfl⟩))
  go_ret
  exact ⟨rfl, box_below _ _⟩
set_option maxRecDepth 100000 in
set_option maxHeartbeats 4000000 in
theorem rfits_2 (A : Option Addr) (l : List Ptr.Nd) (c i : Nat) (w : World) (hr : RdN w A l) (hi : i < l.length) (hP : -1 ≤ Ptr.par l i ∧ Ptr.par l i < i) (hn : (Ptr.nam l i).length ≤ 4611686018427387904) (hv : (Ptr.val l i).length ≤ 4611686018427387904) (hx : Pch.textsL (Ptr.val l i) = true) (hlen : (Ptr.val l i).length ≤ 65536) (hk : Ptr.kin l i = 2) :
    Calls Tryd.prog 41 #[.slice A l.length c, .int .i64 i] w fun e w' => e = .returned (.bool (insU (upK l (Ptr.par l i)) && Pch.nameL (Ptr.nam l i) && decide (Ptr.val l i = []))) ∧ Below w.heap.size w w' := by
  obtain ⟨b, off, rfl, q0, q1, q2, q3⟩ := hr.at_ hi
  have cP := fun wx hx => refParent_any (some ⟨b, off, none⟩) l c i wx hx hi (by omega)
  have cT := fun wx => texts_call (Ptr.val l i) wx hv
  have HR := Kept.mk hr
  have HP := Kept.mk cP
  have i0 : (0 : Int) ≤ (i : Int) := by omega
  have i1 : (i : Int) < (l.length : Int) := by omega
  simp only at q0 q1 q2 q3
  rw [hx] at cT
  obtain ⟨V, hV⟩ : ∃ V : ByteArray, V = ⟨(Ptr.val l i).toArray⟩ := ⟨_, rfl⟩
  have hVs : V.size = (Ptr.val l i).length := by rw [hV]; show (Ptr.val l i).toArray.size = _; simp
  have hVl : V.toList = Ptr.val l i := by rw [hV, ByteArray.toList_eq]
  have v1 : ¬ (65536 : Int) < (V.size : Int) := by omega
  obtain ⟨X, hX⟩ : ∃ X : ByteArray, X = ⟨(Ptr.nam l i).toArray⟩ := ⟨_, rfl⟩
  have hXl : X.toList = Ptr.nam l i := by rw [hX, ByteArray.toList_eq]
  rw [hk] at q0
  have cN := fun wx => name_call (Ptr.nam l i) wx hn
  rw [← hV] at q2 cT
  rw [← hX] at q1 cN
  generalize hU : upK l (Ptr.par l i) = U at cP
  clear HP
  have HP := Kept.mk cP
  have u0 := beq_cast U 0
  have u2 := beq_cast U 2
  have u1 := beq_cast U 1
  change ((U : Int) == 0) = (U == 0) at u0
  change ((U : Int) == 2) = (U == 2) at u2
  change ((U : Int) == 1) = (U == 1) at u1
  unfold insU
  generalize (U == 0) = x0 at u0 ⊢
  generalize (U == 2) = x2 at u2 ⊢
  generalize (U == 1) = x1 at u1 ⊢
  have vE : ∀ z : Bool, decide (Ptr.val l i = []) = z → (if z = true then V.toList = [] else (V.toList == []) = false ∧ V.toList.isEmpty = false) := fun z hz => by
    cases z
    · have h := of_decide_eq_false hz
      rw [← hVl] at h
      exact ⟨by simpa using h, by simpa using h⟩
    · have h := of_decide_eq_true hz
      rw [← hVl] at h
      exact h
  generalize Pch.nameL (Ptr.nam l i) = N at cN ⊢
  generalize hz : decide (Ptr.val l i = []) = Z
  have vZ := vE Z hz
  have CT := Kept.mk cT
  have CN := Kept.mk cN
  clear cP cT cN hr hn hv hx hV hVs hlen hk hX hXl hU vE hz hVl
  cases x0 with
  | true =>
    cases N with
    | true =>
      cases Z with
      | true =>
        have vz : V.toList = [] := vZ
        clear vZ
        go_enter Tryd.func41, Tryd.ntmps41
        go_wp2_with (first | (go_at_call 51; refine (HP.out _ (HR.out.below (box_below _ _))).mono ?_; rintro e w' ⟨rfl, rfl⟩) | (go_at_call 52; refine (CT.out _).mono ?_; rintro e w' ⟨rfl, rfl⟩) | (go_at_call 53; refine (CN.out _).mono ?_; rintro e w' ⟨rfl, rfl⟩))
        go_ret
        exact ⟨rfl, box_below _ _⟩
      | false =>
        obtain ⟨vz, vz2⟩ : (V.toList == []) = false ∧ V.toList.isEmpty = false := vZ
        go_enter Tryd.func41, Tryd.ntmps41
        go_wp2_with (first | (go_at_call 51; refine (HP.out _ (HR.out.below (box_below _ _))).mono ?_; rintro e w' ⟨rfl, rfl⟩) | (go_at_call 52; refine (CT.out _).mono ?_; rintro e w' ⟨rfl, rfl⟩) | (go_at_call 53; refine (CN.out _).mono ?_; rintro e w' ⟨rfl, rfl⟩))
        go_ret
        exact ⟨rfl, box_below _ _⟩
    | false =>
      go_enter Tryd.func41, Tryd.ntmps41
      go_wp2_with (first | (go_at_call 51; refine (HP.out _ (HR.out.below (box_below _ _))).mono ?_; rintro e w' ⟨rfl, rfl⟩) | (go_at_call 52; refine (CT.out _).mono ?_; rintro e w' ⟨rfl, rfl⟩) | (go_at_call 53; refine (CN.out _).mono ?_; rintro e w' ⟨rfl, rfl⟩))
      go_ret
      exact ⟨rfl, box_below _ _⟩
  | false =>
    cases x2 with
    | true =>
      cases N with
      | true =>
        cases Z with
        | true =>
          have vz : V.toList = [] := vZ
          clear vZ
          go_enter Tryd.func41, Tryd.ntmps41
          go_wp2_with (first | (go_at_call 51; refine (HP.out _ (HR.out.below (box_below _ _))).mono ?_; rintro e w' ⟨rfl, rfl⟩) | (go_at_call 52; refine (CT.out _).mono ?_; rintro e w' ⟨rfl, rfl⟩) | (go_at_call 53; refine (CN.out _).mono ?_; rintro e w' ⟨rfl, rfl⟩))
          go_ret
          exact ⟨rfl, box_below _ _⟩
        | false =>
          obtain ⟨vz, vz2⟩ : (V.toList == []) = false ∧ V.toList.isEmpty = false := vZ
          go_enter Tryd.func41, Tryd.ntmps41
          go_wp2_with (first | (go_at_call 51; refine (HP.out _ (HR.out.below (box_below _ _))).mono ?_; rintro e w' ⟨rfl, rfl⟩) | (go_at_call 52; refine (CT.out _).mono ?_; rintro e w' ⟨rfl, rfl⟩) | (go_at_call 53; refine (CN.out _).mono ?_; rintro e w' ⟨rfl, rfl⟩))
          go_ret
          exact ⟨rfl, box_below _ _⟩
      | false =>
        go_enter Tryd.func41, Tryd.ntmps41
        go_wp2_with (first | (go_at_call 51; refine (HP.out _ (HR.out.below (box_below _ _))).mono ?_; rintro e w' ⟨rfl, rfl⟩) | (go_at_call 52; refine (CT.out _).mono ?_; rintro e w' ⟨rfl, rfl⟩) | (go_at_call 53; refine (CN.out _).mono ?_; rintro e w' ⟨rfl, rfl⟩))
        go_ret
        exact ⟨rfl, box_below _ _⟩
    | false =>
      cases x1 with
      | true =>
        cases N with
        | true =>
          cases Z with
          | true =>
            have vz : V.toList = [] := vZ
            clear vZ
            go_enter Tryd.func41, Tryd.ntmps41
            go_wp2_with (first | (go_at_call 51; refine (HP.out _ (HR.out.below (box_below _ _))).mono ?_; rintro e w' ⟨rfl, rfl⟩) | (go_at_call 52; refine (CT.out _).mono ?_; rintro e w' ⟨rfl, rfl⟩) | (go_at_call 53; refine (CN.out _).mono ?_; rintro e w' ⟨rfl, rfl⟩))
            go_ret
            exact ⟨rfl, box_below _ _⟩
          | false =>
            obtain ⟨vz, vz2⟩ : (V.toList == []) = false ∧ V.toList.isEmpty = false := vZ
            go_enter Tryd.func41, Tryd.ntmps41
            go_wp2_with (first | (go_at_call 51; refine (HP.out _ (HR.out.below (box_below _ _))).mono ?_; rintro e w' ⟨rfl, rfl⟩) | (go_at_call 52; refine (CT.out _).mono ?_; rintro e w' ⟨rfl, rfl⟩) | (go_at_call 53; refine (CN.out _).mono ?_; rintro e w' ⟨rfl, rfl⟩))
            go_ret
            exact ⟨rfl, box_below _ _⟩
        | false =>
          go_enter Tryd.func41, Tryd.ntmps41
          go_wp2_with (first | (go_at_call 51; refine (HP.out _ (HR.out.below (box_below _ _))).mono ?_; rintro e w' ⟨rfl, rfl⟩) | (go_at_call 52; refine (CT.out _).mono ?_; rintro e w' ⟨rfl, rfl⟩) | (go_at_call 53; refine (CN.out _).mono ?_; rintro e w' ⟨rfl, rfl⟩))
          go_ret
          exact ⟨rfl, box_below _ _⟩
      | false =>
        go_enter Tryd.func41, Tryd.ntmps41
        go_wp2_with (first | (go_at_call 51; refine (HP.out _ (HR.out.below (box_below _ _))).mono ?_; rintro e w' ⟨rfl, rfl⟩) | (go_at_call 52; refine (CT.out _).mono ?_; rintro e w' ⟨rfl, rfl⟩) | (go_at_call 53; refine (CN.out _).mono ?_; rintro e w' ⟨rfl, rfl⟩))
        go_ret
        exact ⟨rfl, box_below _ _⟩
set_option maxRecDepth 100000 in
set_option maxHeartbeats 4000000 in
theorem rfits_1 (A : Option Addr) (l : List Ptr.Nd) (c i : Nat) (w : World) (hr : RdN w A l) (hi : i < l.length) (hP : -1 ≤ Ptr.par l i ∧ Ptr.par l i < i) (_hn : (Ptr.nam l i).length ≤ 4611686018427387904) (hv : (Ptr.val l i).length ≤ 4611686018427387904) (hx : Pch.textsL (Ptr.val l i) = true) (hlen : (Ptr.val l i).length ≤ 65536) (hk : Ptr.kin l i = 1) :
    Calls Tryd.prog 41 #[.slice A l.length c, .int .i64 i] w fun e w' => e = .returned (.bool (i == 0 && decide (Ptr.nam l i = []) && decide (Ptr.val l i = []))) ∧ Below w.heap.size w w' := by
  obtain ⟨b, off, rfl, q0, q1, q2, q3⟩ := hr.at_ hi
  have cP := fun wx hx => refParent_any (some ⟨b, off, none⟩) l c i wx hx hi (by omega)
  have cT := fun wx => texts_call (Ptr.val l i) wx hv
  have HR := Kept.mk hr
  have HP := Kept.mk cP
  have i0 : (0 : Int) ≤ (i : Int) := by omega
  have i1 : (i : Int) < (l.length : Int) := by omega
  simp only at q0 q1 q2 q3
  rw [hx] at cT
  obtain ⟨V, hV⟩ : ∃ V : ByteArray, V = ⟨(Ptr.val l i).toArray⟩ := ⟨_, rfl⟩
  have hVs : V.size = (Ptr.val l i).length := by rw [hV]; show (Ptr.val l i).toArray.size = _; simp
  have hVl : V.toList = Ptr.val l i := by rw [hV, ByteArray.toList_eq]
  have v1 : ¬ (65536 : Int) < (V.size : Int) := by omega
  obtain ⟨X, hX⟩ : ∃ X : ByteArray, X = ⟨(Ptr.nam l i).toArray⟩ := ⟨_, rfl⟩
  have hXl : X.toList = Ptr.nam l i := by rw [hX, ByteArray.toList_eq]
  rw [hk] at q0
  rw [← hV] at q2 cT
  rw [← hX] at q1
  generalize hU : upK l (Ptr.par l i) = U at cP
  clear HP
  have HP := Kept.mk cP
  have u0 := beq_cast U 0
  have u2 := beq_cast U 2
  have u1 := beq_cast U 1
  change ((U : Int) == 0) = (U == 0) at u0
  change ((U : Int) == 2) = (U == 2) at u2
  change ((U : Int) == 1) = (U == 1) at u1
  generalize (U == 0) = x0 at u0
  generalize (U == 2) = x2 at u2
  generalize (U == 1) = x1 at u1
  have vE : ∀ z : Bool, decide (Ptr.val l i = []) = z → (if z = true then V.toList = [] else (V.toList == []) = false ∧ V.toList.isEmpty = false) := fun z hz => by
    cases z
    · have h := of_decide_eq_false hz
      rw [← hVl] at h
      exact ⟨by simpa using h, by simpa using h⟩
    · have h := of_decide_eq_true hz
      rw [← hVl] at h
      exact h
  have xE : ∀ z : Bool, decide (Ptr.nam l i = []) = z → (if z = true then X.toList = [] else (X.toList == []) = false ∧ X.toList.isEmpty = false) := fun z hz => by
    cases z
    · have h := of_decide_eq_false hz
      rw [← hXl] at h
      exact ⟨by simpa using h, by simpa using h⟩
    · have h := of_decide_eq_true hz
      rw [← hXl] at h
      exact h
  generalize hz : decide (Ptr.val l i = []) = Z
  have vZ := vE Z hz
  generalize hy : decide (Ptr.nam l i = []) = Y
  have xZ := xE Y hy
  have CT := Kept.mk cT
  have s0 := beq_cast i 0
  change ((i : Int) == 0) = (i == 0) at s0
  generalize (i == 0) = S at s0 ⊢
  clear cP cT hr _hn hv hx hV hVs hlen hk hX hXl hU vE hz hVl xE hy
  cases x0 with
  | true =>
    cases S with
    | true =>
      cases Y with
      | true =>
        have xz : X.toList = [] := xZ
        clear xZ
        cases Z with
        | true =>
          have vz : V.toList = [] := vZ
          clear vZ
          go_enter Tryd.func41, Tryd.ntmps41
          go_wp2_with (first | (go_at_call 51; refine (HP.out _ (HR.out.below (box_below _ _))).mono ?_; rintro e w' ⟨rfl, rfl⟩) | (go_at_call 52; refine (CT.out _).mono ?_; rintro e w' ⟨rfl, rfl⟩))
          go_ret
          exact ⟨rfl, box_below _ _⟩
        | false =>
          obtain ⟨vz, vz2⟩ : (V.toList == []) = false ∧ V.toList.isEmpty = false := vZ
          go_enter Tryd.func41, Tryd.ntmps41
          go_wp2_with (first | (go_at_call 51; refine (HP.out _ (HR.out.below (box_below _ _))).mono ?_; rintro e w' ⟨rfl, rfl⟩) | (go_at_call 52; refine (CT.out _).mono ?_; rintro e w' ⟨rfl, rfl⟩))
          go_ret
          exact ⟨rfl, box_below _ _⟩
      | false =>
        obtain ⟨xz, xz2⟩ : (X.toList == []) = false ∧ X.toList.isEmpty = false := xZ
        go_enter Tryd.func41, Tryd.ntmps41
        go_wp2_with (first | (go_at_call 51; refine (HP.out _ (HR.out.below (box_below _ _))).mono ?_; rintro e w' ⟨rfl, rfl⟩) | (go_at_call 52; refine (CT.out _).mono ?_; rintro e w' ⟨rfl, rfl⟩))
        go_ret
        exact ⟨rfl, box_below _ _⟩
    | false =>
      go_enter Tryd.func41, Tryd.ntmps41
      go_wp2_with (first | (go_at_call 51; refine (HP.out _ (HR.out.below (box_below _ _))).mono ?_; rintro e w' ⟨rfl, rfl⟩) | (go_at_call 52; refine (CT.out _).mono ?_; rintro e w' ⟨rfl, rfl⟩))
      go_ret
      exact ⟨rfl, box_below _ _⟩
  | false =>
    cases x2 with
    | true =>
      cases S with
      | true =>
        cases Y with
        | true =>
          have xz : X.toList = [] := xZ
          clear xZ
          cases Z with
          | true =>
            have vz : V.toList = [] := vZ
            clear vZ
            go_enter Tryd.func41, Tryd.ntmps41
            go_wp2_with (first | (go_at_call 51; refine (HP.out _ (HR.out.below (box_below _ _))).mono ?_; rintro e w' ⟨rfl, rfl⟩) | (go_at_call 52; refine (CT.out _).mono ?_; rintro e w' ⟨rfl, rfl⟩))
            go_ret
            exact ⟨rfl, box_below _ _⟩
          | false =>
            obtain ⟨vz, vz2⟩ : (V.toList == []) = false ∧ V.toList.isEmpty = false := vZ
            go_enter Tryd.func41, Tryd.ntmps41
            go_wp2_with (first | (go_at_call 51; refine (HP.out _ (HR.out.below (box_below _ _))).mono ?_; rintro e w' ⟨rfl, rfl⟩) | (go_at_call 52; refine (CT.out _).mono ?_; rintro e w' ⟨rfl, rfl⟩))
            go_ret
            exact ⟨rfl, box_below _ _⟩
        | false =>
          obtain ⟨xz, xz2⟩ : (X.toList == []) = false ∧ X.toList.isEmpty = false := xZ
          go_enter Tryd.func41, Tryd.ntmps41
          go_wp2_with (first | (go_at_call 51; refine (HP.out _ (HR.out.below (box_below _ _))).mono ?_; rintro e w' ⟨rfl, rfl⟩) | (go_at_call 52; refine (CT.out _).mono ?_; rintro e w' ⟨rfl, rfl⟩))
          go_ret
          exact ⟨rfl, box_below _ _⟩
      | false =>
        go_enter Tryd.func41, Tryd.ntmps41
        go_wp2_with (first | (go_at_call 51; refine (HP.out _ (HR.out.below (box_below _ _))).mono ?_; rintro e w' ⟨rfl, rfl⟩) | (go_at_call 52; refine (CT.out _).mono ?_; rintro e w' ⟨rfl, rfl⟩))
        go_ret
        exact ⟨rfl, box_below _ _⟩
    | false =>
      cases x1 with
      | true =>
        cases S with
        | true =>
          cases Y with
          | true =>
            have xz : X.toList = [] := xZ
            clear xZ
            cases Z with
            | true =>
              have vz : V.toList = [] := vZ
              clear vZ
              go_enter Tryd.func41, Tryd.ntmps41
              go_wp2_with (first | (go_at_call 51; refine (HP.out _ (HR.out.below (box_below _ _))).mono ?_; rintro e w' ⟨rfl, rfl⟩) | (go_at_call 52; refine (CT.out _).mono ?_; rintro e w' ⟨rfl, rfl⟩))
              go_ret
              exact ⟨rfl, box_below _ _⟩
            | false =>
              obtain ⟨vz, vz2⟩ : (V.toList == []) = false ∧ V.toList.isEmpty = false := vZ
              go_enter Tryd.func41, Tryd.ntmps41
              go_wp2_with (first | (go_at_call 51; refine (HP.out _ (HR.out.below (box_below _ _))).mono ?_; rintro e w' ⟨rfl, rfl⟩) | (go_at_call 52; refine (CT.out _).mono ?_; rintro e w' ⟨rfl, rfl⟩))
              go_ret
              exact ⟨rfl, box_below _ _⟩
          | false =>
            obtain ⟨xz, xz2⟩ : (X.toList == []) = false ∧ X.toList.isEmpty = false := xZ
            go_enter Tryd.func41, Tryd.ntmps41
            go_wp2_with (first | (go_at_call 51; refine (HP.out _ (HR.out.below (box_below _ _))).mono ?_; rintro e w' ⟨rfl, rfl⟩) | (go_at_call 52; refine (CT.out _).mono ?_; rintro e w' ⟨rfl, rfl⟩))
            go_ret
            exact ⟨rfl, box_below _ _⟩
        | false =>
          go_enter Tryd.func41, Tryd.ntmps41
          go_wp2_with (first | (go_at_call 51; refine (HP.out _ (HR.out.below (box_below _ _))).mono ?_; rintro e w' ⟨rfl, rfl⟩) | (go_at_call 52; refine (CT.out _).mono ?_; rintro e w' ⟨rfl, rfl⟩))
          go_ret
          exact ⟨rfl, box_below _ _⟩
      | false =>
        cases S with
        | true =>
          cases Y with
          | true =>
            have xz : X.toList = [] := xZ
            clear xZ
            cases Z with
            | true =>
              have vz : V.toList = [] := vZ
              clear vZ
              go_enter Tryd.func41, Tryd.ntmps41
              go_wp2_with (first | (go_at_call 51; refine (HP.out _ (HR.out.below (box_below _ _))).mono ?_; rintro e w' ⟨rfl, rfl⟩) | (go_at_call 52; refine (CT.out _).mono ?_; rintro e w' ⟨rfl, rfl⟩))
              go_ret
              exact ⟨rfl, box_below _ _⟩
            | false =>
              obtain ⟨vz, vz2⟩ : (V.toList == []) = false ∧ V.toList.isEmpty = false := vZ
              go_enter Tryd.func41, Tryd.ntmps41
              go_wp2_with (first | (go_at_call 51; refine (HP.out _ (HR.out.below (box_below _ _))).mono ?_; rintro e w' ⟨rfl, rfl⟩) | (go_at_call 52; refine (CT.out _).mono ?_; rintro e w' ⟨rfl, rfl⟩))
              go_ret
              exact ⟨rfl, box_below _ _⟩
          | false =>
            obtain ⟨xz, xz2⟩ : (X.toList == []) = false ∧ X.toList.isEmpty = false := xZ
            go_enter Tryd.func41, Tryd.ntmps41
            go_wp2_with (first | (go_at_call 51; refine (HP.out _ (HR.out.below (box_below _ _))).mono ?_; rintro e w' ⟨rfl, rfl⟩) | (go_at_call 52; refine (CT.out _).mono ?_; rintro e w' ⟨rfl, rfl⟩))
            go_ret
            exact ⟨rfl, box_below _ _⟩
        | false =>
          go_enter Tryd.func41, Tryd.ntmps41
          go_wp2_with (first | (go_at_call 51; refine (HP.out _ (HR.out.below (box_below _ _))).mono ?_; rintro e w' ⟨rfl, rfl⟩) | (go_at_call 52; refine (CT.out _).mono ?_; rintro e w' ⟨rfl, rfl⟩))
          go_ret
          exact ⟨rfl, box_below _ _⟩
set_option maxRecDepth 100000 in
set_option maxHeartbeats 4000000 in
theorem rfits_3 (A : Option Addr) (l : List Ptr.Nd) (c i : Nat) (w : World) (hr : RdN w A l) (hi : i < l.length) (hP : -1 ≤ Ptr.par l i ∧ Ptr.par l i < i) (hn : (Ptr.nam l i).length ≤ 4611686018427387904) (hv : (Ptr.val l i).length ≤ 4611686018427387904) (hl : l.length ≤ 100000) (hx : Pch.textsL (Ptr.val l i) = true) (hlen : (Ptr.val l i).length ≤ 65536) (hk : Ptr.kin l i = 3) :
    Calls Tryd.prog 41 #[.slice A l.length c, .int .i64 i] w fun e w' => e = .returned (.bool (refAttrB l i)) ∧ Below w.heap.size w w' := by
  obtain ⟨b, off, rfl, q0, q1, q2, q3⟩ := hr.at_ hi
  have cP := fun wx hx => refParent_any (some ⟨b, off, none⟩) l c i wx hx hi (by omega)
  have cT := fun wx => texts_call (Ptr.val l i) wx hv
  have HR := Kept.mk hr
  have HP := Kept.mk cP
  have i0 : (0 : Int) ≤ (i : Int) := by omega
  have i1 : (i : Int) < (l.length : Int) := by omega
  simp only at q0 q1 q2 q3
  rw [hx] at cT
  obtain ⟨V, hV⟩ : ∃ V : ByteArray, V = ⟨(Ptr.val l i).toArray⟩ := ⟨_, rfl⟩
  have hVs : V.size = (Ptr.val l i).length := by rw [hV]; show (Ptr.val l i).toArray.size = _; simp
  have hVl : V.toList = Ptr.val l i := by rw [hV, ByteArray.toList_eq]
  have v1 : ¬ (65536 : Int) < (V.size : Int) := by omega
  obtain ⟨X, hX⟩ : ∃ X : ByteArray, X = ⟨(Ptr.nam l i).toArray⟩ := ⟨_, rfl⟩
  have hXl : X.toList = Ptr.nam l i := by rw [hX, ByteArray.toList_eq]
  rw [hk] at q0
  have cA := fun wx hx => refAttribute_any (some ⟨b, off, none⟩) l c i wx hx hi hP hl hn
  rw [← hV] at q2 cT
  generalize refAttrB l i = R at cA ⊢
  generalize hU : upK l (Ptr.par l i) = U at cP
  clear HP
  have HP := Kept.mk cP
  have u0 := beq_cast U 0
  have u2 := beq_cast U 2
  have u1 := beq_cast U 1
  change ((U : Int) == 0) = (U == 0) at u0
  change ((U : Int) == 2) = (U == 2) at u2
  change ((U : Int) == 1) = (U == 1) at u1
  generalize (U == 0) = x0 at u0
  generalize (U == 2) = x2 at u2
  generalize (U == 1) = x1 at u1
  have CT := Kept.mk cT
  have CA := Kept.mk cA
  clear cP cT cA hr hn hv hx hV hVs hlen hk hX hXl hU hVl hl
  cases x0 with
  | true =>
    go_enter Tryd.func41, Tryd.ntmps41
    go_wp2_with (first | (go_at_call 51; refine (HP.out _ (HR.out.below (box_below _ _))).mono ?_; rintro e w' ⟨rfl, rfl⟩) | (go_at_call 52; refine (CT.out _).mono ?_; rintro e w' ⟨rfl, rfl⟩) | (go_at_call 54; refine (CA.out _ (HR.out.below (box_below _ _))).mono ?_; rintro e w2 ⟨rfl, hb2⟩))
    go_ret
    exact ⟨rfl, (box_below _ _).trans (hb2.mono (box_below _ _).size)⟩
  | false =>
    cases x2 with
    | true =>
      go_enter Tryd.func41, Tryd.ntmps41
      go_wp2_with (first | (go_at_call 51; refine (HP.out _ (HR.out.below (box_below _ _))).mono ?_; rintro e w' ⟨rfl, rfl⟩) | (go_at_call 52; refine (CT.out _).mono ?_; rintro e w' ⟨rfl, rfl⟩) | (go_at_call 54; refine (CA.out _ (HR.out.below (box_below _ _))).mono ?_; rintro e w2 ⟨rfl, hb2⟩))
      go_ret
      exact ⟨rfl, (box_below _ _).trans (hb2.mono (box_below _ _).size)⟩
    | false =>
      cases x1 with
      | true =>
        go_enter Tryd.func41, Tryd.ntmps41
        go_wp2_with (first | (go_at_call 51; refine (HP.out _ (HR.out.below (box_below _ _))).mono ?_; rintro e w' ⟨rfl, rfl⟩) | (go_at_call 52; refine (CT.out _).mono ?_; rintro e w' ⟨rfl, rfl⟩) | (go_at_call 54; refine (CA.out _ (HR.out.below (box_below _ _))).mono ?_; rintro e w2 ⟨rfl, hb2⟩))
        go_ret
        exact ⟨rfl, (box_below _ _).trans (hb2.mono (box_below _ _).size)⟩
      | false =>
        go_enter Tryd.func41, Tryd.ntmps41
        go_wp2_with (first | (go_at_call 51; refine (HP.out _ (HR.out.below (box_below _ _))).mono ?_; rintro e w' ⟨rfl, rfl⟩) | (go_at_call 52; refine (CT.out _).mono ?_; rintro e w' ⟨rfl, rfl⟩) | (go_at_call 54; refine (CA.out _ (HR.out.below (box_below _ _))).mono ?_; rintro e w2 ⟨rfl, hb2⟩))
        go_ret
        exact ⟨rfl, (box_below _ _).trans (hb2.mono (box_below _ _).size)⟩
set_option maxRecDepth 100000 in
set_option maxHeartbeats 4000000 in
theorem rfits_6 (A : Option Addr) (l : List Ptr.Nd) (c i : Nat) (w : World) (hr : RdN w A l) (hi : i < l.length) (hP : -1 ≤ Ptr.par l i ∧ Ptr.par l i < i) (hn : (Ptr.nam l i).length ≤ 4611686018427387904) (hv : (Ptr.val l i).length ≤ 4611686018427387904) (hx : Pch.textsL (Ptr.val l i) = true) (hlen : (Ptr.val l i).length ≤ 65536) (hk : Ptr.kin l i = 6) :
    Calls Tryd.prog 41 #[.slice A l.length c, .int .i64 i] w fun e w' => e = .returned (.bool (insU (upK l (Ptr.par l i)) && Pch.nameL (Ptr.nam l i) && !Ptr.isXml (Ptr.nam l i) && !Ptr.has2 63 62 (Ptr.val l i) && Ptr.noBlank (Ptr.val l i))) ∧ Below w.heap.size w w' := by
  obtain ⟨b, off, rfl, q0, q1, q2, q3⟩ := hr.at_ hi
  have cP := fun wx hx => refParent_any (some ⟨b, off, none⟩) l c i wx hx hi (by omega)
  have cT := fun wx => texts_call (Ptr.val l i) wx hv
  have HR := Kept.mk hr
  have HP := Kept.mk cP
  have i0 : (0 : Int) ≤ (i : Int) := by omega
  have i1 : (i : Int) < (l.length : Int) := by omega
  simp only at q0 q1 q2 q3
  rw [hx] at cT
  obtain ⟨V, hV⟩ : ∃ V : ByteArray, V = ⟨(Ptr.val l i).toArray⟩ := ⟨_, rfl⟩
  have hVs : V.size = (Ptr.val l i).length := by rw [hV]; show (Ptr.val l i).toArray.size = _; simp
  have hVl : V.toList = Ptr.val l i := by rw [hV, ByteArray.toList_eq]
  have v1 : ¬ (65536 : Int) < (V.size : Int) := by omega
  obtain ⟨X, hX⟩ : ∃ X : ByteArray, X = ⟨(Ptr.nam l i).toArray⟩ := ⟨_, rfl⟩
  have hXl : X.toList = Ptr.nam l i := by rw [hX, ByteArray.toList_eq]
  rw [hk] at q0
  have cN := fun wx => name_call (Ptr.nam l i) wx hn
  have cX := fun wx => xml_call (Ptr.nam l i) wx
  have cH := fun wx => has_call (Ptr.val l i) 63 62 wx hv
  have hB : Ptr.val l i ≠ [] → ∃ B, Ptr.noBlank (Ptr.val l i) = !B ∧ 1 ≤ V.size ∧ ∀ wx, Calls Tryd.prog 58 #[.string (V.extract 0 1)] wx fun e w' => e = .returned (.bool B) ∧ wx = w' := blank_head V (Ptr.val l i) hVl
  have hE : Ptr.val l i = [] → Ptr.noBlank (Ptr.val l i) = true := fun e => by rw [e]; rfl
  rw [← hV] at q2 cT cH
  rw [← hX] at q1 cN cX
  generalize hU : upK l (Ptr.par l i) = U at cP
  clear HP
  have HP := Kept.mk cP
  have u0 := beq_cast U 0
  have u2 := beq_cast U 2
  have u1 := beq_cast U 1
  change ((U : Int) == 0) = (U == 0) at u0
  change ((U : Int) == 2) = (U == 2) at u2
  change ((U : Int) == 1) = (U == 1) at u1
  unfold insU
  generalize (U == 0) = x0 at u0 ⊢
  generalize (U == 2) = x2 at u2 ⊢
  generalize (U == 1) = x1 at u1 ⊢
  have vE : ∀ z : Bool, decide (Ptr.val l i = []) = z → (if z = true then V.toList = [] else (V.toList == []) = false ∧ V.toList.isEmpty = false) := fun z hz => by
    cases z
    · have h := of_decide_eq_false hz
      rw [← hVl] at h
      exact ⟨by simpa using h, by simpa using h⟩
    · have h := of_decide_eq_true hz
      rw [← hVl] at h
      exact h
  generalize Pch.nameL (Ptr.nam l i) = N at cN ⊢
  generalize Ptr.isXml (Ptr.nam l i) = M at cX ⊢
  generalize Ptr.has2 63 62 (Ptr.val l i) = H at cH ⊢
  generalize Ptr.noBlank (Ptr.val l i) = B at hB hE ⊢
  have CT := Kept.mk cT
  have CN := Kept.mk cN
  have CX := Kept.mk cX
  have CH := Kept.mk cH
  have VE := Kept.mk vE
  have HBB := Kept.mk hB
  have HE := Kept.mk hE
  clear cP cT cN cX cH hr hn hv hx hV hVs hlen hk hX hXl hU vE hVl hB hE
  cases x0 with
  | true =>
    cases N with
    | true =>
      cases M with
      | true =>
        go_enter Tryd.func41, Tryd.ntmps41
        go_wp2_with (first | (go_at_call 51; refine (HP.out _ (HR.out.below (box_below _ _))).mono ?_; rintro e w' ⟨rfl, rfl⟩) | (go_at_call 52; refine (CT.out _).mono ?_; rintro e w' ⟨rfl, rfl⟩) | (go_at_call 53; refine (CN.out _).mono ?_; rintro e w' ⟨rfl, rfl⟩) | (go_at_call 57; refine (CX.out _).mono ?_; rintro e w' ⟨rfl, rfl⟩) | (go_at_call 56; refine (CH.out _).mono ?_; rintro e w' ⟨rfl, rfl⟩))
        go_ret
        exact ⟨rfl, box_below _ _⟩
      | false =>
        cases H with
        | true =>
          go_enter Tryd.func41, Tryd.ntmps41
          go_wp2_with (first | (go_at_call 51; refine (HP.out _ (HR.out.below (box_below _ _))).mono ?_; rintro e w' ⟨rfl, rfl⟩) | (go_at_call 52; refine (CT.out _).mono ?_; rintro e w' ⟨rfl, rfl⟩) | (go_at_call 53; refine (CN.out _).mono ?_; rintro e w' ⟨rfl, rfl⟩) | (go_at_call 57; refine (CX.out _).mono ?_; rintro e w' ⟨rfl, rfl⟩) | (go_at_call 56; refine (CH.out _).mono ?_; rintro e w' ⟨rfl, rfl⟩))
          go_ret
          exact ⟨rfl, box_below _ _⟩
        | false =>
          by_cases hz : Ptr.val l i = []
          · have vz : V.toList = [] := VE.out true (decide_eq_true hz)
            obtain rfl : B = true := HE.out hz
            clear hz
            go_enter Tryd.func41, Tryd.ntmps41
            go_wp2_with (first | (go_at_call 51; refine (HP.out _ (HR.out.below (box_below _ _))).mono ?_; rintro e w' ⟨rfl, rfl⟩) | (go_at_call 52; refine (CT.out _).mono ?_; rintro e w' ⟨rfl, rfl⟩) | (go_at_call 53; refine (CN.out _).mono ?_; rintro e w' ⟨rfl, rfl⟩) | (go_at_call 57; refine (CX.out _).mono ?_; rintro e w' ⟨rfl, rfl⟩) | (go_at_call 56; refine (CH.out _).mono ?_; rintro e w' ⟨rfl, rfl⟩))
            go_ret
            exact ⟨rfl, box_below _ _⟩
          · obtain ⟨vz, vz2⟩ : (V.toList == []) = false ∧ V.toList.isEmpty = false := VE.out false (decide_eq_false hz)
            obtain ⟨B', rfl, z1, cB⟩ := HBB.out hz
            have z2 : (1 : Int) ≤ (V.size : Int) := by omega
            have CB := Kept.mk cB
            clear hz cB
            cases B'
            all_goals
              go_enter Tryd.func41, Tryd.ntmps41
              go_wp2_with (first | (go_at_call 51; refine (HP.out _ (HR.out.below (box_below _ _))).mono ?_; rintro e w' ⟨rfl, rfl⟩) | (go_at_call 52; refine (CT.out _).mono ?_; rintro e w' ⟨rfl, rfl⟩) | (go_at_call 53; refine (CN.out _).mono ?_; rintro e w' ⟨rfl, rfl⟩) | (go_at_call 57; refine (CX.out _).mono ?_; rintro e w' ⟨rfl, rfl⟩) | (go_at_call 56; refine (CH.out _).mono ?_; rintro e w' ⟨rfl, rfl⟩) | (go_at_call 58; refine (CB.out _).mono ?_; rintro e w' ⟨rfl, rfl⟩))
              go_ret
              exact ⟨rfl, box_below _ _⟩
    | false =>
      go_enter Tryd.func41, Tryd.ntmps41
      go_wp2_with (first | (go_at_call 51; refine (HP.out _ (HR.out.below (box_below _ _))).mono ?_; rintro e w' ⟨rfl, rfl⟩) | (go_at_call 52; refine (CT.out _).mono ?_; rintro e w' ⟨rfl, rfl⟩) | (go_at_call 53; refine (CN.out _).mono ?_; rintro e w' ⟨rfl, rfl⟩) | (go_at_call 57; refine (CX.out _).mono ?_; rintro e w' ⟨rfl, rfl⟩) | (go_at_call 56; refine (CH.out _).mono ?_; rintro e w' ⟨rfl, rfl⟩))
      go_ret
      exact ⟨rfl, box_below _ _⟩
  | false =>
    cases x2 with
    | true =>
      cases N with
      | true =>
        cases M with
        | true =>
          go_enter Tryd.func41, Tryd.ntmps41
          go_wp2_with (first | (go_at_call 51; refine (HP.out _ (HR.out.below (box_below _ _))).mono ?_; rintro e w' ⟨rfl, rfl⟩) | (go_at_call 52; refine (CT.out _).mono ?_; rintro e w' ⟨rfl, rfl⟩) | (go_at_call 53; refine (CN.out _).mono ?_; rintro e w' ⟨rfl, rfl⟩) | (go_at_call 57; refine (CX.out _).mono ?_; rintro e w' ⟨rfl, rfl⟩) | (go_at_call 56; refine (CH.out _).mono ?_; rintro e w' ⟨rfl, rfl⟩))
          go_ret
          exact ⟨rfl, box_below _ _⟩
        | false =>
          cases H with
          | true =>
            go_enter Tryd.func41, Tryd.ntmps41
            go_wp2_with (first | (go_at_call 51; refine (HP.out _ (HR.out.below (box_below _ _))).mono ?_; rintro e w' ⟨rfl, rfl⟩) | (go_at_call 52; refine (CT.out _).mono ?_; rintro e w' ⟨rfl, rfl⟩) | (go_at_call 53; refine (CN.out _).mono ?_; rintro e w' ⟨rfl, rfl⟩) | (go_at_call 57; refine (CX.out _).mono ?_; rintro e w' ⟨rfl, rfl⟩) | (go_at_call 56; refine (CH.out _).mono ?_; rintro e w' ⟨rfl, rfl⟩))
            go_ret
            exact ⟨rfl, box_below _ _⟩
          | false =>
            by_cases hz : Ptr.val l i = []
            · have vz : V.toList = [] := VE.out true (decide_eq_true hz)
              obtain rfl : B = true := HE.out hz
              clear hz
              go_enter Tryd.func41, Tryd.ntmps41
              go_wp2_with (first | (go_at_call 51; refine (HP.out _ (HR.out.below (box_below _ _))).mono ?_; rintro e w' ⟨rfl, rfl⟩) | (go_at_call 52; refine (CT.out _).mono ?_; rintro e w' ⟨rfl, rfl⟩) | (go_at_call 53; refine (CN.out _).mono ?_; rintro e w' ⟨rfl, rfl⟩) | (go_at_call 57; refine (CX.out _).mono ?_; rintro e w' ⟨rfl, rfl⟩) | (go_at_call 56; refine (CH.out _).mono ?_; rintro e w' ⟨rfl, rfl⟩))
              go_ret
              exact ⟨rfl, box_below _ _⟩
            · obtain ⟨vz, vz2⟩ : (V.toList == []) = false ∧ V.toList.isEmpty = false := VE.out false (decide_eq_false hz)
              obtain ⟨B', rfl, z1, cB⟩ := HBB.out hz
              have z2 : (1 : Int) ≤ (V.size : Int) := by omega
              have CB := Kept.mk cB
              clear hz cB
              cases B'
              all_goals
                go_enter Tryd.func41, Tryd.ntmps41
                go_wp2_with (first | (go_at_call 51; refine (HP.out _ (HR.out.below (box_below _ _))).mono ?_; rintro e w' ⟨rfl, rfl⟩) | (go_at_call 52; refine (CT.out _).mono ?_; rintro e w' ⟨rfl, rfl⟩) | (go_at_call 53; refine (CN.out _).mono ?_; rintro e w' ⟨rfl, rfl⟩) | (go_at_call 57; refine (CX.out _).mono ?_; rintro e w' ⟨rfl, rfl⟩) | (go_at_call 56; refine (CH.out _).mono ?_; rintro e w' ⟨rfl, rfl⟩) | (go_at_call 58; refine (CB.out _).mono ?_; rintro e w' ⟨rfl, rfl⟩))
                go_ret
                exact ⟨rfl, box_below _ _⟩
      | false =>
        go_enter Tryd.func41, Tryd.ntmps41
        go_wp2_with (first | (go_at_call 51; refine (HP.out _ (HR.out.below (box_below _ _))).mono ?_; rintro e w' ⟨rfl, rfl⟩) | (go_at_call 52; refine (CT.out _).mono ?_; rintro e w' ⟨rfl, rfl⟩) | (go_at_call 53; refine (CN.out _).mono ?_; rintro e w' ⟨rfl, rfl⟩) | (go_at_call 57; refine (CX.out _).mono ?_; rintro e w' ⟨rfl, rfl⟩) | (go_at_call 56; refine (CH.out _).mono ?_; rintro e w' ⟨rfl, rfl⟩))
        go_ret
        exact ⟨rfl, box_below _ _⟩
    | false =>
      cases x1 with
      | true =>
        cases N with
        | true =>
          cases M with
          | true =>
            go_enter Tryd.func41, Tryd.ntmps41
            go_wp2_with (first | (go_at_call 51; refine (HP.out _ (HR.out.below (box_below _ _))).mono ?_; rintro e w' ⟨rfl, rfl⟩) | (go_at_call 52; refine (CT.out _).mono ?_; rintro e w' ⟨rfl, rfl⟩) | (go_at_call 53; refine (CN.out _).mono ?_; rintro e w' ⟨rfl, rfl⟩) | (go_at_call 57; refine (CX.out _).mono ?_; rintro e w' ⟨rfl, rfl⟩) | (go_at_call 56; refine (CH.out _).mono ?_; rintro e w' ⟨rfl, rfl⟩))
            go_ret
            exact ⟨rfl, box_below _ _⟩
          | false =>
            cases H with
            | true =>
              go_enter Tryd.func41, Tryd.ntmps41
              go_wp2_with (first | (go_at_call 51; refine (HP.out _ (HR.out.below (box_below _ _))).mono ?_; rintro e w' ⟨rfl, rfl⟩) | (go_at_call 52; refine (CT.out _).mono ?_; rintro e w' ⟨rfl, rfl⟩) | (go_at_call 53; refine (CN.out _).mono ?_; rintro e w' ⟨rfl, rfl⟩) | (go_at_call 57; refine (CX.out _).mono ?_; rintro e w' ⟨rfl, rfl⟩) | (go_at_call 56; refine (CH.out _).mono ?_; rintro e w' ⟨rfl, rfl⟩))
              go_ret
              exact ⟨rfl, box_below _ _⟩
            | false =>
              by_cases hz : Ptr.val l i = []
              · have vz : V.toList = [] := VE.out true (decide_eq_true hz)
                obtain rfl : B = true := HE.out hz
                clear hz
                go_enter Tryd.func41, Tryd.ntmps41
                go_wp2_with (first | (go_at_call 51; refine (HP.out _ (HR.out.below (box_below _ _))).mono ?_; rintro e w' ⟨rfl, rfl⟩) | (go_at_call 52; refine (CT.out _).mono ?_; rintro e w' ⟨rfl, rfl⟩) | (go_at_call 53; refine (CN.out _).mono ?_; rintro e w' ⟨rfl, rfl⟩) | (go_at_call 57; refine (CX.out _).mono ?_; rintro e w' ⟨rfl, rfl⟩) | (go_at_call 56; refine (CH.out _).mono ?_; rintro e w' ⟨rfl, rfl⟩))
                go_ret
                exact ⟨rfl, box_below _ _⟩
              · obtain ⟨vz, vz2⟩ : (V.toList == []) = false ∧ V.toList.isEmpty = false := VE.out false (decide_eq_false hz)
                obtain ⟨B', rfl, z1, cB⟩ := HBB.out hz
                have z2 : (1 : Int) ≤ (V.size : Int) := by omega
                have CB := Kept.mk cB
                clear hz cB
                cases B'
                all_goals
                  go_enter Tryd.func41, Tryd.ntmps41
                  go_wp2_with (first | (go_at_call 51; refine (HP.out _ (HR.out.below (box_below _ _))).mono ?_; rintro e w' ⟨rfl, rfl⟩) | (go_at_call 52; refine (CT.out _).mono ?_; rintro e w' ⟨rfl, rfl⟩) | (go_at_call 53; refine (CN.out _).mono ?_; rintro e w' ⟨rfl, rfl⟩) | (go_at_call 57; refine (CX.out _).mono ?_; rintro e w' ⟨rfl, rfl⟩) | (go_at_call 56; refine (CH.out _).mono ?_; rintro e w' ⟨rfl, rfl⟩) | (go_at_call 58; refine (CB.out _).mono ?_; rintro e w' ⟨rfl, rfl⟩))
                  go_ret
                  exact ⟨rfl, box_below _ _⟩
        | false =>
          go_enter Tryd.func41, Tryd.ntmps41
          go_wp2_with (first | (go_at_call 51; refine (HP.out _ (HR.out.below (box_below _ _))).mono ?_; rintro e w' ⟨rfl, rfl⟩) | (go_at_call 52; refine (CT.out _).mono ?_; rintro e w' ⟨rfl, rfl⟩) | (go_at_call 53; refine (CN.out _).mono ?_; rintro e w' ⟨rfl, rfl⟩) | (go_at_call 57; refine (CX.out _).mono ?_; rintro e w' ⟨rfl, rfl⟩) | (go_at_call 56; refine (CH.out _).mono ?_; rintro e w' ⟨rfl, rfl⟩))
          go_ret
          exact ⟨rfl, box_below _ _⟩
      | false =>
        go_enter Tryd.func41, Tryd.ntmps41
        go_wp2_with (first | (go_at_call 51; refine (HP.out _ (HR.out.below (box_below _ _))).mono ?_; rintro e w' ⟨rfl, rfl⟩) | (go_at_call 52; refine (CT.out _).mono ?_; rintro e w' ⟨rfl, rfl⟩) | (go_at_call 53; refine (CN.out _).mono ?_; rintro e w' ⟨rfl, rfl⟩) | (go_at_call 57; refine (CX.out _).mono ?_; rintro e w' ⟨rfl, rfl⟩) | (go_at_call 56; refine (CH.out _).mono ?_; rintro e w' ⟨rfl, rfl⟩))
        go_ret
        exact ⟨rfl, box_below _ _⟩
end Go.Proofs.YtkjodleggfacbaaDoor.Wtr
