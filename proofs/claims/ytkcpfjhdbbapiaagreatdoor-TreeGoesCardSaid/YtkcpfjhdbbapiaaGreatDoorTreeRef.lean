/- The walks over the document's Place, Below, end, End, Kids, Attributes (chapter 06). The walks over the document's Kids, Attributes, End, Part, Text, and over the kit's SameInts, SameNodes (chapter 06). The walks over the document's Text, and over both Takes (chapter 06). -/
import Derived.Test.YtkcpfjhdbbapiaaGreatDoorTreePart
import Derived.Test.YtkcpfjhdbbapiaaGreatDoorTreeGoC
import Derived.Test.YtkcpfjhdbbapiaaGreatDoorLentNodes
import Derived.Laws.StructEq
import Derived.Lib.AppendStr
import Derived.Lib.BufSteps
import Derived.BigQuiet
namespace Go.Proofs.YtkcpfjhdbbapiaaGreatDoor.Wtr
open Go Go.RowKit Go.Proofs.YtkcpfjhdbbapiaaGreatDoor.Kb Go.Proofs.YtkcpfjhdbbapiaaGreatDoor.Flt

set_option maxHeartbeats 1000000 in
theorem refPlace_any (A : Option Addr) (l : List Ptr.Nd) (c : Nat) (a : Int) (w : World) (hr : RdN w A l) (hl : l.length ≤ 100000) (hf : FitL l) :
    Calls Tryz.prog 43 #[.slice A l.length c, .int .i64 a] w fun e w' => e = .returned (.bool (placeB l a)) ∧ Below w.heap.size w w' := by
  have cK := fun wx (hx : Below w.heap.size w wx) => refcheck_any A l c wx (hr.below hx) hl hf
  have cG := fun wx (hx : Below w.heap.size w wx) => reffragment_any A l c wx (hr.below hx) hl hf
  generalize hB : placeB l a = B
  unfold placeB at hB
  have e1 : (((Ptr.chk l true : Nat) : Int) == 0) = (Ptr.chk l true == 0) := beq_i _ 0
  have e2 : (((Ptr.chk l false : Nat) : Int) == 0) = (Ptr.chk l false == 0) := beq_i _ 0
  generalize Ptr.chk l true = C1 at cK hB e1
  generalize Ptr.chk l false = C2 at cG hB e2
  generalize (C1 == 0) = x1 at hB e1
  generalize (C2 == 0) = x2 at hB e2
  have CK := Kept.mk cK
  have CG := Kept.mk cG
  have HB := Kept.mk hB
  clear cK cG hB hr hf
  by_cases h0 : 0 ≤ a
  · by_cases h1 : a < l.length
    · have hX : Kept ((x1 || x2) = B) := ⟨by rw [← HB.out, decide_eq_true ⟨h0, h1⟩, Bool.true_and]⟩
      cases x1 with
      | true =>
        go_enter Tryz.func43, Tryz.ntmps43
        go_wp2_with (go_at_call 63; refine (CK.out _ (Below.refl _ _)).mono ?_; rintro e w1 ⟨rfl, hb1⟩)
        go_ret
        exact ⟨ret_bool (by rw [← hX.out]; rfl), hb1⟩
      | false =>
        cases x2
        all_goals
          go_enter Tryz.func43, Tryz.ntmps43
          go_wp2_with (first | (go_at_call 63; refine (CK.out _ (Below.refl _ _)).mono ?_; rintro e w1 ⟨rfl, hb1⟩) | (go_at_call 64; refine (CG.out _ hb1).mono ?_; rintro e w2 ⟨rfl, hb2⟩))
          go_ret
          exact ⟨ret_bool (by rw [← hX.out]; rfl), hb1.trans (hb2.mono hb1.size)⟩
    · have hX : Kept (B = false) := ⟨by rw [← HB.out, decide_eq_false (fun h => h1 h.2)]; rfl⟩
      go_enter Tryz.func43, Tryz.ntmps43
      go_wp2
      go_ret
      exact ⟨ret_bool hX.out.symm, Below.refl _ _⟩
  · have hX : Kept (B = false) := ⟨by rw [← HB.out, decide_eq_false (fun h => h0 h.1)]; rfl⟩
    go_enter Tryz.func43, Tryz.ntmps43
    go_wp2
    go_ret
    exact ⟨ret_bool hX.out.symm, Below.refl _ _⟩
set_option maxHeartbeats 1000000 in
theorem refBelow_any (A : Option Addr) (l : List Ptr.Nd) (c i q : Nat) (w : World) (hr : RdN w A l) (hg : Ptr.Rng l l.length) (hi : i < l.length) :
    Calls Tryz.prog 44 #[.slice A l.length c, .int .i64 i, .int .i64 q] w fun e w' => e = .returned (.bool (Ptr.belB l i q)) ∧ w = w' := by
  have hT : Kept (Ptr.belC l q (i + 1) i = Ptr.belB l i q) := ⟨rfl⟩
  generalize Ptr.belB l i q = T at hT ⊢
  have HR := Kept.mk hr
  have HG := Kept.mk hg
  have q0 : (0 : Int) ≤ (q : Int) := by omega
  clear hr hg
  go_enter Tryz.func44, Tryz.ntmps44
  go_wp2
  go_loop [7] (fun p => ∃ (f : Nat) (z : Int), p = .int .i64 z ∧ -1 ≤ z ∧ z < l.length ∧ z < f ∧ Kept (Ptr.belC l q f z = T)) (fun p => (intOf p + 1).toNat)
  case atStart => exact ⟨i + 1, i, rfl, by omega, by omega, by omega, hT⟩
  case round =>
    obtain ⟨f, z, rfl, h1, h2, h3, H⟩ := hrel
    by_cases hz : 0 ≤ z
    · obtain ⟨k, rfl⟩ : ∃ k : Nat, z = k := ⟨z.toNat, by omega⟩
      obtain ⟨g, rfl⟩ : ∃ g, f = g + 1 := ⟨f - 1, by omega⟩
      have h := H.out
      rw [Ptr.belC_at, if_neg (by omega), Int.toNat_natCast] at h
      have k1 : (k : Int) < (l.length : Int) := by omega
      by_cases e : (k : Int) = q
      · rw [if_pos e] at h
        have e2 : ((k : Int) == (q : Int)) = true := by simpa using e
        have H2 := Kept.mk h
        clear h H e
        go_wp2
        go_ret
        exact ⟨ret_bool H2.out, rfl⟩
      · rw [if_neg e] at h
        have e2 : ((k : Int) == (q : Int)) = false := by simpa using e
        obtain ⟨b, off, rfl, _, _, _, c3⟩ := HR.out.at_ (i := k) (by omega)
        simp only at c3
        have hrk := HG.out k (by omega)
        generalize Ptr.par l k = P at c3 h hrk
        have H2 := Kept.mk h
        clear h H e
        go_wp2
        go_round
        case rel => exact ⟨g, P, rfl, by omega, by omega, by omega, H2⟩
        case measure => simp [intOf]; omega
    · have h := H.out
      rw [Ptr.belC_neg _ _ (by omega)] at h
      have H2 := Kept.mk h
      clear h H
      go_wp2
      go_ret
      exact ⟨ret_bool H2.out, rfl⟩
set_option maxHeartbeats 1000000 in
theorem refend_any (A : Option Addr) (l : List Ptr.Nd) (c i : Nat) (w : World) (hr : RdN w A l) (hg : Ptr.Rng l l.length) (ho : ∀ k, k < l.length → Ptr.openB l k = true) (hi : i < l.length) (hl : l.length ≤ 100000) :
    Calls Tryz.prog 52 #[.slice A l.length c, .int .i64 i] w fun e w' => e = .returned (.int .i64 (Ptr.endN l i)) ∧ w = w' := by
  obtain ⟨s1, s2, _, _⟩ := Ptr.endN_spec l i hi
  have HB := Kept.mk (fun j hj => Ptr.belB_iff hg ho i hi j hj)
  have CB := Kept.mk (fun j hj => refBelow_any A l c j i w hr hg hj)
  generalize Ptr.endN l i = T at s1 s2 HB ⊢
  have i0 : (0 : Int) ≤ (i : Int) := by omega
  have i1 : (i : Int) < (l.length : Int) := by omega
  clear hr hg ho
  go_enter Tryz.func52, Tryz.ntmps52
  go_wp2
  go_loop [5] (fun p => ∃ k : Nat, p = .int .i64 k ∧ i + 1 ≤ k ∧ k ≤ T) (fun p => T - (intOf p).toNat)
  case atStart => exact ⟨i + 1, by go_num, by omega, by omega⟩
  case round =>
    obtain ⟨k, rfl, hk1, hk2⟩ := hrel
    have k0 : (0 : Int) ≤ (k : Int) := by omega
    by_cases hlt : k < l.length
    · have k1 : (k : Int) < (l.length : Int) := by omega
      have cb := CB.out k hlt
      by_cases hT : k < T
      · rw [(HB.out k hlt).2 ⟨by omega, hT⟩] at cb
        have CC := Kept.mk cb
        clear cb
        go_wp2_with (go_at_call 44; refine CC.out.mono ?_; rintro e w1 ⟨rfl, rfl⟩)
        go_round
        case rel => exact ⟨k + 1, by go_num, by omega, by omega⟩
        case measure => simp [intOf]; omega
      · have hb : Ptr.belB l k i = false := by
          cases hx : Ptr.belB l k i with
          | false => rfl
          | true => exact absurd ((HB.out k hlt).1 hx).2 hT
        rw [hb] at cb
        have CC := Kept.mk cb
        obtain rfl : k = T := by omega
        clear cb hb
        go_wp2_with (go_at_call 44; refine CC.out.mono ?_; rintro e w1 ⟨rfl, rfl⟩)
        go_ret
        exact ⟨rfl, rfl⟩
    · have k1 : ¬ (k : Int) < (l.length : Int) := by omega
      obtain rfl : k = T := by omega
      go_wp2
      go_ret
      exact ⟨rfl, rfl⟩
set_option maxHeartbeats 2000000 in
theorem refwith_any (A : Option Addr) (l : List Ptr.Nd) (c q : Nat) (at' : Bool) (w : World) (hr : RdN w A l) (hl : l.length ≤ 100000) :
    Calls Tryz.prog 45 #[.slice A l.length c, .int .i64 q, .bool at'] w fun e w' => ∃ v, e = .returned v ∧ w'.ownsRow w.heap.size 3 1 v (Ptr.kidsL l q at' 0 l.length).length (ic (Ptr.kidsL l q at' 0 l.length)) ∧ Below w.heap.size w w' := by
  obtain ⟨i0', hi, hz0, hz1, hz2⟩ := info_parts infoI'
  have HRD := Kept.mk hr
  clear hr
  have q0 : (0 : Int) ≤ (q : Int) := by omega
  go_enter Tryz.func45, Tryz.ntmps45
  go_wp2
  go_loopw [7, 8] (fun v i wx => ∃ k : Nat, k ≤ l.length ∧ i = .int .i64 k ∧ Kept (wx.ownsRow w.heap.size 3 1 v (Ptr.kidsL l q at' 0 k).length (ic (Ptr.kidsL l q at' 0 k))) ∧ Kept (Below w.heap.size w wx)) (fun _ i _ => l.length - (intOf i).toNat)
  case atStart => exact ⟨0, by omega, rfl, ⟨by rw [show Ptr.kidsL l q at' 0 0 = [] by simp [Ptr.kidsL]]; exact World.ownsRow_nil _ _ _ _⟩, ⟨Below.refl _ _⟩⟩
  case round =>
    obtain ⟨k, hkb, rfl, HO, HB⟩ := hrel
    obtain ⟨A1, c1, rfl⟩ := own_shape_i HO.out
    have s3 := HB.out.size
    have k0 : (0 : Int) ≤ (k : Int) := by omega
    by_cases hlt : k < l.length
    · have k2 : (k : Int) < (l.length : Int) := by omega
      obtain ⟨bb, off, rfl, c0, _, _, c3⟩ := (HRD.out.below HB.out).at_ (i := k) hlt
      simp only at c0 c3
      have hst := Ptr.kidsL_step l q at' 0 k (by omega)
      have hsl := Ptr.kidsL_le l q at' 0 k
      have e3 : (((Ptr.kin l k : Nat) : Int) == 3) = (Ptr.kin l k == 3) := beq_i _ 3
      generalize Ptr.kin l k = K at c0 e3 hst
      generalize (K == 3) = Z at e3 hst
      generalize Ptr.par l k = P at c3 hst
      have HST := Kept.mk hst
      clear hst
      by_cases eP : P = (q : Int)
      · have e4 : (P == (q : Int)) = true := by simpa using eP
        by_cases e5 : (Z == at') = true
        · go_wp2_with (at_builtin; refine wpList_append_own _ rfl (.tmp 32) (.tmp 34) 27 rfl w.heap.size 3 i0' (.int .i64 0) 1 8 Tryz.underlying27 hi hz0 hz1 hz2 rfl (by decide) _ _ _ (by rfl) (HO.out.alloc _) ⟨wr.heap.size, 0, none⟩ 1 1 [.int .i64 (k : Int)] (by rfl) (by rfl) (cell_one_new _ _ _) (by intro u hu; simp at hu; subst hu; rfl) (by unfold maxLen; omega) (by omega) (by simp; omega) ?_; intro v' w5 hown5 hgrow5 _; have hb5 := Below.grown (HB.out.alloc s3 _) hgrow5 (by simp; omega) (fun q hq => (HO.out.lt q hq).1); have O5 := Kept.mk hown5; have B5 := Kept.mk hb5; clear hown5 hgrow5 hb5)
          go_roundw
          case rel => exact ⟨k + 1, by omega, by go_num, ⟨by rw [HST.out, e5, decide_eq_true eP, Bool.and_true, if_pos rfl, ic_append, List.length_append]; exact O5.out⟩, B5⟩
          case measure => simp [intOf]; omega
        · have e5 : (Z == at') = false := by simpa using e5
          go_wp2
          go_roundw
          case rel => exact ⟨k + 1, by omega, by go_num, ⟨by rw [HST.out, e5, Bool.and_false, if_neg (by simp), List.append_nil]; exact HO.out⟩, HB⟩
          case measure => simp [intOf]; omega
      · have e4 : (P == (q : Int)) = false := by simpa using eP
        go_wp2
        go_roundw
        case rel => exact ⟨k + 1, by omega, by go_num, ⟨by rw [HST.out, decide_eq_false eP, Bool.false_and, if_neg (by simp), List.append_nil]; exact HO.out⟩, HB⟩
        case measure => simp [intOf]; omega
    · obtain rfl : k = l.length := by omega
      go_wp2
      go_ret
      exact ⟨_, rfl, HO.out, HB.out⟩
end Go.Proofs.YtkcpfjhdbbapiaaGreatDoor.Wtr
namespace Go.Proofs.YtkcpfjhdbbapiaaGreatDoor.Wtr
open Go Go.RowKit Go.Proofs.YtkcpfjhdbbapiaaGreatDoor.Kb Go.Proofs.YtkcpfjhdbbapiaaGreatDoor.Flt

theorem kidsB_of {l : List Ptr.Nd} {i : Nat} {at' : Bool} (hi : i < l.length) (hp : placeB l i = true) : Ptr.kidsL l i at' 0 l.length = kidsB l i at' := by
  obtain ⟨hg, ho⟩ := place_rng hp
  unfold kidsB
  rw [if_pos hp, Int.toNat_natCast, Ptr.kidsL_eq hg ho i hi at']
theorem kidsB_no {l : List Ptr.Nd} {a : Int} {at' : Bool} (hp : placeB l a = false) : kidsB l a at' = [] := by
  unfold kidsB
  rw [if_neg (by rw [hp]; simp)]
set_option maxHeartbeats 1000000 in
theorem refKids_any (A : Option Addr) (l : List Ptr.Nd) (c : Nat) (a : Int) (w : World) (hr : RdN w A l) (hl : l.length ≤ 100000) (hf : FitL l) :
    Calls Tryz.prog 18 #[.slice A l.length c, .int .i64 a] w fun e w' => ∃ v, e = .returned v ∧ w'.ownsRow w.heap.size 3 1 v (kidsB l a false).length (ic (kidsB l a false)) ∧ Below w.heap.size w w' := by
  have cP := refPlace_any A l c a w hr hl hf
  have HR := Kept.mk hr
  cases hp : placeB l a with
  | false =>
    rw [hp] at cP
    have CP := Kept.mk cP
    rw [kidsB_no hp]
    clear cP hr hf hp
    go_enter Tryz.func18, Tryz.ntmps18
    go_wp2_with (go_at_call 43; refine CP.out.mono ?_; rintro e w1 ⟨rfl, hb1⟩)
    go_ret
    exact ⟨_, rfl, World.ownsRow_nil _ _ _ _, hb1⟩
  | true =>
    obtain ⟨i, rfl, hi⟩ := place_in hp
    rw [hp] at cP
    have CP := Kept.mk cP
    have cW := fun wx hx => refwith_any A l c i false wx hx hl
    rw [kidsB_of hi hp] at cW
    have CW := Kept.mk cW
    clear cP hr hf hp cW
    go_enter Tryz.func18, Tryz.ntmps18
    go_wp2_with (first | (go_at_call 43; refine CP.out.mono ?_; rintro e w1 ⟨rfl, hb1⟩) | (go_at_call 45; refine (CW.out _ (HR.out.below hb1)).mono ?_; rintro e w2 ⟨v, rfl, hO, hb2⟩))
    go_ret
    exact ⟨_, rfl, own_low hO hb1.size, hb1.trans (hb2.mono hb1.size)⟩
set_option maxHeartbeats 1000000 in
theorem refAttributes_any (A : Option Addr) (l : List Ptr.Nd) (c : Nat) (a : Int) (w : World) (hr : RdN w A l) (hl : l.length ≤ 100000) (hf : FitL l) :
    Calls Tryz.prog 20 #[.slice A l.length c, .int .i64 a] w fun e w' => ∃ v, e = .returned v ∧ w'.ownsRow w.heap.size 3 1 v (kidsB l a true).length (ic (kidsB l a true)) ∧ Below w.heap.size w w' := by
  have cP := refPlace_any A l c a w hr hl hf
  have HR := Kept.mk hr
  cases hp : placeB l a with
  | false =>
    rw [hp] at cP
    have CP := Kept.mk cP
    rw [kidsB_no hp]
    clear cP hr hf hp
    go_enter Tryz.func20, Tryz.ntmps20
    go_wp2_with (go_at_call 43; refine CP.out.mono ?_; rintro e w1 ⟨rfl, hb1⟩)
    go_ret
    exact ⟨_, rfl, World.ownsRow_nil _ _ _ _, hb1⟩
  | true =>
    obtain ⟨i, rfl, hi⟩ := place_in hp
    rw [hp] at cP
    have CP := Kept.mk cP
    have cW := fun wx hx => refwith_any A l c i true wx hx hl
    rw [kidsB_of hi hp] at cW
    have CW := Kept.mk cW
    clear cP hr hf hp cW
    go_enter Tryz.func20, Tryz.ntmps20
    go_wp2_with (first | (go_at_call 43; refine CP.out.mono ?_; rintro e w1 ⟨rfl, hb1⟩) | (go_at_call 45; refine (CW.out _ (HR.out.below hb1)).mono ?_; rintro e w2 ⟨v, rfl, hO, hb2⟩))
    go_ret
    exact ⟨_, rfl, own_low hO hb1.size, hb1.trans (hb2.mono hb1.size)⟩
set_option maxHeartbeats 1000000 in
theorem refEnd_any (A : Option Addr) (l : List Ptr.Nd) (c : Nat) (a : Int) (w : World) (hr : RdN w A l) (hl : l.length ≤ 100000) (hf : FitL l) :
    Calls Tryz.prog 22 #[.slice A l.length c, .int .i64 a] w fun e w' => e = .returned (.int .i64 (endB l a)) ∧ Below w.heap.size w w' := by
  have cP := refPlace_any A l c a w hr hl hf
  have HR := Kept.mk hr
  unfold endB
  cases hp : placeB l a with
  | false =>
    rw [hp] at cP
    have CP := Kept.mk cP
    rw [if_neg (by simp)]
    clear cP hr hf hp
    go_enter Tryz.func22, Tryz.ntmps22
    go_wp2_with (go_at_call 43; refine CP.out.mono ?_; rintro e w1 ⟨rfl, hb1⟩)
    go_ret
    exact ⟨rfl, hb1⟩
  | true =>
    obtain ⟨i, rfl, hi⟩ := place_in hp
    obtain ⟨hg, ho⟩ := place_rng hp
    rw [hp] at cP
    have CP := Kept.mk cP
    rw [if_pos rfl, Int.toNat_natCast, endN_same]
    have CN := Kept.mk (fun wx hx => refend_any A l c i wx hx hg ho hi hl)
    clear cP hr hf hp hg ho
    go_enter Tryz.func22, Tryz.ntmps22
    go_wp2_with (first | (go_at_call 43; refine CP.out.mono ?_; rintro e w1 ⟨rfl, hb1⟩) | (go_at_call 52; refine (CN.out _ (HR.out.below hb1)).mono ?_; rintro e w2 ⟨rfl, rfl⟩))
    go_ret
    exact ⟨rfl, hb1⟩
set_option maxRecDepth 100000 in
set_option maxHeartbeats 1000000 in
theorem sameInts_any (L : List Nat) (v1 v2 : Value) (b1 b2 : Nat) (w : World) (h1 : w.ownsRow b1 3 1 v1 L.length (ic L)) (h2 : w.ownsRow b2 3 1 v2 L.length (ic L)) (hl : L.length ≤ 1000000) :
    Calls Tryz.prog 8 #[v1, v2] w fun e w' => e = .returned (.bool true) ∧ Below w.heap.size w w' := by
  obtain ⟨A1, c1, rfl⟩ := own_shape_i h1
  obtain ⟨A2, c2, rfl⟩ := own_shape_i h2
  have H1 := Kept.mk h1
  have H2 := Kept.mk h2
  clear h1 h2
  go_enter Tryz.func8, Tryz.ntmps8
  go_wp2
  go_loopw [5] (fun i wx => ∃ k : Nat, k ≤ L.length ∧ i = .int .i64 (k : Int) ∧ ∃ d, wx = w.drewN d) (fun i _ => L.length - (intOf i).toNat)
  case atStart => exact ⟨0, by omega, rfl, 0, rfl⟩
  case round =>
    obtain ⟨k, hk, rfl, d, rfl⟩ := hrel
    have k0 : (0 : Int) ≤ (k : Int) := by omega
    by_cases hlt : k < L.length
    · have k1 : (k : Int) < (L.length : Int) := by omega
      obtain ⟨g1, d1, e1, _⟩ := own_block H1.out (by omega)
      obtain ⟨g2, d2, e2, _⟩ := own_block H2.out (by omega)
      obtain ⟨rfl, rfl⟩ : A1 = some ⟨g1, 0, none⟩ ∧ c1 = d1 := by simpa using e1
      obtain ⟨rfl, rfl⟩ : A2 = some ⟨g2, 0, none⟩ ∧ c2 = d2 := by simpa using e2
      have hx : (ic L)[k]? = some (.int .i64 ((L[k]'hlt : Nat) : Int)) := by unfold ic; rw [List.getElem?_map, List.getElem?_eq_getElem hlt]; rfl
      have x1 := own_at H1.out k _ hx
      have x2 := own_at H2.out k _ hx
      generalize ((L[k]'hlt : Nat) : Int) = z at x1 x2
      clear hx e1 e2
      go_wp2
      go_quiet (fail)
      go_wp2
      go_roundw
      case rel => exact ⟨k + 1, by omega, by go_num, d + nq, rfl⟩
      case measure => simp [intOf]; omega
    · obtain rfl : k = L.length := by omega
      go_wp2
      go_ret
      exact ⟨rfl, below_drewN (Below.refl _ _) _⟩
theorem neq_node (k : Int) (s t : ByteArray) (p : Int) (w : World) : (binOp .neq 47 (.agg #[.int .u8 k, .string s, .string t, .int .i64 p]) (.agg #[.int .u8 k, .string s, .string t, .int .i64 p])).run Tryz.prog w = .ok (.bool false) w := by
  have h := eql_node k s t p w
  rw [run_eql_struct] at h
  rw [run_neq_struct]
  revert h
  cases (Op.equalIn 10000 47 (.agg #[.int .u8 k, .string s, .string t, .int .i64 p]) (.agg #[.int .u8 k, .string s, .string t, .int .i64 p])).run Tryz.prog w with
  | ok b w' => intro h; simp at h ⊢; exact ⟨by simpa using h.1, h.2⟩
  | halt x w' => intro h; simp at h
set_option maxRecDepth 100000 in
set_option maxHeartbeats 1000000 in
theorem sameNodes_any (L : List Ptr.Nd) (v1 v2 : Value) (b1 b2 : Nat) (w : World) (h1 : w.ownsRow b1 47 4 v1 L.length (ndsC L)) (h2 : w.ownsRow b2 47 4 v2 L.length (ndsC L)) (hl : L.length ≤ 1000000) :
    Calls Tryz.prog 25 #[v1, v2] w fun e w' => e = .returned (.bool true) ∧ Below w.heap.size w w' := by
  obtain ⟨A1, c1, rfl⟩ : ∃ A c, v1 = .slice A L.length c := by
    rcases h1.2 with ⟨rfl, hn⟩ | ⟨g, cap, cur, rfl, _⟩
    · rw [hn]; exact ⟨none, 0, rfl⟩
    · exact ⟨_, cap, rfl⟩
  obtain ⟨A2, c2, rfl⟩ : ∃ A c, v2 = .slice A L.length c := by
    rcases h2.2 with ⟨rfl, hn⟩ | ⟨g, cap, cur, rfl, _⟩
    · rw [hn]; exact ⟨none, 0, rfl⟩
    · exact ⟨_, cap, rfl⟩
  have H1 := Kept.mk (rdn_of_own h1)
  have H2 := Kept.mk (rdn_of_own h2)
  clear h1 h2
  go_enter Tryz.func25, Tryz.ntmps25
  go_wp2
  go_loopw [5] (fun i wx => ∃ k : Nat, k ≤ L.length ∧ i = .int .i64 (k : Int) ∧ ∃ d, wx = w.drewN d) (fun i _ => L.length - (intOf i).toNat)
  case atStart => exact ⟨0, by omega, rfl, 0, rfl⟩
  case round =>
    obtain ⟨k, hk, rfl, d, rfl⟩ := hrel
    have k0 : (0 : Int) ≤ (k : Int) := by omega
    by_cases hlt : k < L.length
    · have k1 : (k : Int) < (L.length : Int) := by omega
      obtain ⟨g1, o1, rfl, x0, x1, x2, x3⟩ := H1.out.at_ hlt
      obtain ⟨g2, o2, rfl, y0, y1, y2, y3⟩ := H2.out.at_ hlt
      simp only at x0 x1 x2 x3 y0 y1 y2 y3
      have hE := neq_node (Ptr.kin L k) ⟨(Ptr.nam L k).toArray⟩ ⟨(Ptr.val L k).toArray⟩ (Ptr.par L k)
      go_wp2
      go_quiet (fail)
      go_wp2
      go_roundw
      case rel => exact ⟨k + 1, by omega, by go_num, d + nq, rfl⟩
      case measure => simp [intOf]; omega
    · obtain rfl : k = L.length := by omega
      go_wp2
      go_ret
      exact ⟨rfl, below_drewN (Below.refl _ _) _⟩
theorem news_two (w : World) (o : Obj) (cs : List Value) (t : TypeId) : ∀ j u, cs[j]? = some u → ((w.alloc o).alloc (.cells cs.toArray t)).cell? ((⟨w.heap.size + 1, 0, none⟩ : Addr).add j) = some u := by
  intro j u hu
  rw [addr_add, Nat.zero_add]
  have := World.cell?_alloc_new (w.alloc o) cs.toArray t j
  rw [World.size_alloc] at this
  rw [this, List.getElem?_toArray]
  exact hu
theorem one_four (k : Int) (x y : ByteArray) (z : Int) : ∀ u ∈ [Value.int .u8 k, .string x, .string y, .int .i64 z], u.oneCell' = true := by
  intro u hu
  simp only [List.mem_cons, List.mem_nil_iff, or_false] at hu
  rcases hu with rfl | rfl | rfl | rfl <;> rfl
/-- the first d nodes of a part -/
theorem partN_take (l : List Ptr.Nd) (i d : Nat) (h : d < Ptr.endN l i - i) : (partN l i).take (d + 1) = (partN l i).take d ++ [(Ptr.kin l (i + d), Ptr.nam l (i + d), Ptr.val l (i + d), if d = 0 then -1 else Ptr.par l (i + d) - i)] := by
  have hg := partN_get l i d h
  obtain ⟨hj, he⟩ := List.getElem?_eq_some_iff.1 hg
  rw [List.take_succ_eq_append_getElem hj, he]
set_option maxRecDepth 100000 in
set_option maxHeartbeats 4000000 in
theorem refPart_any (A : Option Addr) (l : List Ptr.Nd) (c : Nat) (a : Int) (w : World) (hr : RdN w A l) (hl : l.length ≤ 100000) (hf : FitL l) :
    Calls Tryz.prog 26 #[.slice A l.length c, .int .i64 a] w fun e w' => ∃ v, e = .returned v ∧ w'.ownsRow w.heap.size 47 4 v (partB l a).length (ndsC (partB l a)) ∧ Below w.heap.size w w' := by
  obtain ⟨i0', hi', hz0, hz1, hz2⟩ := info_parts infoN
  have cP := refPlace_any A l c a w hr hl hf
  unfold partB
  cases hp : placeB l a with
  | false =>
    rw [hp] at cP
    have CP := Kept.mk cP
    rw [if_neg (by simp)]
    clear cP hr hf hp
    go_enter Tryz.func26, Tryz.ntmps26
    go_wp2_with (go_at_call 43; refine CP.out.mono ?_; rintro e w1 ⟨rfl, hb1⟩)
    go_ret
    exact ⟨_, rfl, World.ownsRow_nil _ _ _ _, hb1⟩
  | true =>
    obtain ⟨i, rfl, hi⟩ := place_in hp
    obtain ⟨hg, ho⟩ := place_rng hp
    rw [hp] at cP
    rw [if_pos rfl, Int.toNat_natCast]
    obtain ⟨s1, s2, _, _⟩ := Ptr.endN_spec l i hi
    have hPT := fun d hd => partN_take l i d hd
    have hPL := partN_len l i
    have CP := Kept.mk cP
    have CN := Kept.mk (fun wx hx => refend_any A l c i wx hx hg ho hi hl)
    generalize partN l i = PN at hPT hPL ⊢
    generalize Ptr.endN l i = E at s1 s2 hPT hPL CN
    obtain ⟨m, rfl⟩ : ∃ m, E = i + m := ⟨E - i, by omega⟩
    rw [Nat.add_sub_cancel_left] at hPT hPL
    have HR := Kept.mk hr; have HG := Kept.mk hg; have HPT := Kept.mk hPT; have HPL := Kept.mk hPL
    have i0 : (0 : Int) ≤ (i : Int) := by omega
    clear cP hr hf hp hg ho hPT hPL
    go_enter Tryz.func26, Tryz.ntmps26
    go_wp2_with (go_at_call 43; refine CP.out.mono ?_; rintro e w1 ⟨rfl, hb1⟩; have B1 := Kept.mk hb1; clear hb1)
    go_loopw [5, 6] (fun v j wx => ∃ d : Nat, d ≤ m ∧ j = .int .i64 ((i : Int) + (d : Int)) ∧ Kept (wx.ownsRow w.heap.size 47 4 v d (ndsC (PN.take d))) ∧ Kept (Below w.heap.size w wx)) (fun _ j _ => i + m - (intOf j).toNat)
    case atStart => exact ⟨0, by omega, by go_num, ⟨World.ownsRow_nil _ _ _ _⟩, B1⟩
    case round =>
      obtain ⟨d, hd, rfl, HO, HB⟩ := hrel
      obtain ⟨A2, c2, rfl⟩ : ∃ A c, _ = Value.slice A d c := by
        rcases HO.out.2 with ⟨h, hn⟩ | ⟨g, cap, cur, h, _⟩
        · rw [hn]; exact ⟨none, 0, h⟩
        · exact ⟨_, cap, h⟩
      have s3 := HB.out.size
      have d0 : (0 : Int) ≤ (d : Int) := by omega
      by_cases hlt : d < m
      · have d1 : (i : Int) + (d : Int) < (i : Int) + (m : Int) := by omega
        have d2 : (i : Int) + (d : Int) < (l.length : Int) := by omega
        obtain ⟨b, off, rfl, c0, c1', c2', c3⟩ := (HR.out.below HB.out).at_ (i := i + d) (by omega)
        simp only at c0 c1' c2' c3
        have hst := HPT.out d hlt
        have hrk := HG.out (i + d) (by omega)
        generalize Ptr.par l (i + d) = P at c3 hst hrk
        generalize Ptr.kin l (i + d) = K at c0 hst
        obtain ⟨y1, hy1⟩ : ∃ y : ByteArray, y = ⟨(Ptr.nam l (i + d)).toArray⟩ := ⟨_, rfl⟩
        obtain ⟨y2, hy2⟩ : ∃ y : ByteArray, y = ⟨(Ptr.val l (i + d)).toArray⟩ := ⟨_, rfl⟩
        rw [← hy1] at c1'
        rw [← hy2] at c2'
        have HC : Kept (ndsC (PN.take (d + 1)) = ndsC (PN.take d) ++ [.int .u8 (K : Int), .string y1, .string y2, .int .i64 (if d = 0 then -1 else P - i)]) := ⟨by rw [hst, ndsC_append, hy1, hy2]; rfl⟩
        clear hst hy1 hy2
        by_cases e : d = 0
        · have e2 : ((i : Int) + (d : Int) == (i : Int)) = true := by simp; omega
          have HC2 : Kept (ndsC (PN.take (d + 1)) = ndsC (PN.take d) ++ [.int .u8 (K : Int), .string y1, .string y2, .int .i64 (-1)]) := ⟨by rw [HC.out, if_pos e]⟩
          clear HC e
          go_wp2_with (first | (go_at_call 52; refine (CN.out _ (HR.out.below HB.out)).mono ?_; rintro e w2 ⟨rfl, rfl⟩) | (at_builtin; refine wpList_append_own _ rfl (.tmp 33) (.tmp 35) 22 rfl w.heap.size 47 i0' (.agg #[.int .u8 0, .string ⟨#[]⟩, .string ⟨#[]⟩, .int .i64 0]) 4 48 Tryz.underlying22 hi' hz0 hz1 hz2 rfl (by decide) _ d (ndsC (PN.take d)) (by rfl) ((HO.out.alloc _).alloc _) ⟨wr.heap.size + 1, 0, none⟩ 1 1 [.int .u8 (K : Int), .string y1, .string y2, .int .i64 (-1)] (by rfl) (by rfl) (news_two _ _ _ _) (one_four _ _ _ _) (by unfold maxLen; omega) (by omega) (by simp; omega) ?_; intro v' w5 hown5 hgrow5 _; have hb5 := Below.grown ((HB.out.alloc s3 _).alloc (by simp; omega) _) hgrow5 (by simp; omega) (fun q hq => (HO.out.lt q hq).1); have O5 := Kept.mk hown5; have B5 := Kept.mk hb5; clear hown5 hgrow5 hb5))
          go_roundw
          case rel => exact ⟨d + 1, by omega, by go_num, ⟨by rw [HC2.out]; exact O5.out⟩, B5⟩
          case measure => simp [intOf]; omega
        · have e2 : ((i : Int) + (d : Int) == (i : Int)) = false := by simp; omega
          have HC2 : Kept (ndsC (PN.take (d + 1)) = ndsC (PN.take d) ++ [.int .u8 (K : Int), .string y1, .string y2, .int .i64 (P - i)]) := ⟨by rw [HC.out, if_neg e]⟩
          clear HC e
          go_wp2_with (first | (go_at_call 52; refine (CN.out _ (HR.out.below HB.out)).mono ?_; rintro e w2 ⟨rfl, rfl⟩) | (at_builtin; refine wpList_append_own _ rfl (.tmp 33) (.tmp 35) 22 rfl w.heap.size 47 i0' (.agg #[.int .u8 0, .string ⟨#[]⟩, .string ⟨#[]⟩, .int .i64 0]) 4 48 Tryz.underlying22 hi' hz0 hz1 hz2 rfl (by decide) _ d (ndsC (PN.take d)) (by rfl) ((HO.out.alloc _).alloc _) ⟨wr.heap.size + 1, 0, none⟩ 1 1 [.int .u8 (K : Int), .string y1, .string y2, .int .i64 (P - i)] (by rfl) (by rfl) (news_two _ _ _ _) (one_four _ _ _ _) (by unfold maxLen; omega) (by omega) (by simp; omega) ?_; intro v' w5 hown5 hgrow5 _; have hb5 := Below.grown ((HB.out.alloc s3 _).alloc (by simp; omega) _) hgrow5 (by simp; omega) (fun q hq => (HO.out.lt q hq).1); have O5 := Kept.mk hown5; have B5 := Kept.mk hb5; clear hown5 hgrow5 hb5))
          go_roundw
          case rel => exact ⟨d + 1, by omega, by go_num, ⟨by rw [HC2.out]; exact O5.out⟩, B5⟩
          case measure => simp [intOf]; omega
      · obtain rfl : d = m := by omega
        have d1 : ¬ (i : Int) + (d : Int) < (i : Int) + (d : Int) := by omega
        go_wp2_with (go_at_call 52; refine (CN.out _ (HR.out.below HB.out)).mono ?_; rintro e w2 ⟨rfl, rfl⟩)
        go_ret
        exact ⟨_, rfl, by rw [HPL.out]; have h := HO.out; rwa [List.take_of_length_le (by rw [HPL.out]; exact Nat.le_refl _)] at h, HB.out⟩
end Go.Proofs.YtkcpfjhdbbapiaaGreatDoor.Wtr
namespace Go.Proofs.YtkcpfjhdbbapiaaGreatDoor.Wtr
open Go Go.RowKit Go.Proofs.YtkcpfjhdbbapiaaGreatDoor.Kb Go.Proofs.YtkcpfjhdbbapiaaGreatDoor.Flt

/-- a node's text: none, where there is no such place -/
def textB (l : List Ptr.Nd) (a : Int) : List UInt8 := if placeB l a = true then textN l a.toNat else []
theorem place_small {l : List Ptr.Nd} {a : Int} (hp : placeB l a = true) : ∀ j, (Ptr.val l j).length ≤ 65536 := by
  obtain ⟨root, h⟩ := place_good hp
  exact val_small h
set_option maxHeartbeats 1000000 in
theorem TextB_any (A : Option Addr) (l : List Ptr.Nd) (c : Nat) (a : Int) (w : World) (hr : RdN w A l) (hl : l.length ≤ 16384) (hc : l.length ≤ c) (hf : FitP l) (hE : TEnv w) :
    Calls Tryz.prog 23 #[.slice A l.length c, .int .i64 a] w fun e w' => e = .returned (.string ⟨(textB l a).toArray⟩) ∧ Below w.heap.size w w' := by
  unfold textB
  cases hp : placeB l a with
  | false =>
    have cP := place_any A l c a w hr (by omega) hf hE
    rw [hp] at cP
    have CP := Kept.mk cP
    rw [if_neg (by simp)]
    clear cP hr hf hE hp
    go_enter Tryz.func23, Tryz.ntmps23
    go_wp2_with (go_at_call 32; refine CP.out.mono ?_; rintro e w1 ⟨rfl, hb1⟩)
    go_ret
    exact ⟨rfl, hb1⟩
  | true =>
    obtain ⟨i, rfl, hi⟩ := place_in hp
    rw [if_pos rfl, Int.toNat_natCast]
    exact Text_any A l c i w hr hl hf hE hi hc hp
theorem infoB : (Tryz.prog.info? 5).map (fun i => (i.zero, i.size, i.bytes)) = some (some (.int .u8 0), 1, 1) := by kernel_rfl
theorem conv_ownB {w : World} {base n c : Nat} {A : Option Addr} (l : List UInt8) (h : w.ownsRow base 5 1 (.slice A n c) n (bc l)) (hn : l.length = n) : (convert 86 9 (.slice A n c)).run Tryz.prog w = .ok (.string ⟨l.toArray⟩) w := by
  rcases h.2 with ⟨e, h0⟩ | ⟨g, cap, cur, e, _⟩
  · cases e
    obtain rfl : l = [] := List.length_eq_zero_iff.1 (by omega)
    exact run_convert_bytes_nil w _ 5 Tryz.underlying86 Tryz.underlying5 _ _ _ Tryz.underlying9
  · cases e
    subst hn
    refine run_convert_bytes_back _ _ _ 5 _ c l Tryz.underlying86 Tryz.underlying5 Tryz.underlying9 (fun j hj => ?_)
    exact h.cells (g := g) rfl j _ (by simp [bc, List.getElem?_eq_getElem hj])
set_option maxRecDepth 100000 in
set_option maxHeartbeats 4000000 in
theorem refText_any (A : Option Addr) (l : List Ptr.Nd) (c : Nat) (a : Int) (w : World) (hr : RdN w A l) (hl : l.length ≤ 16384) (hf : FitL l) :
    Calls Tryz.prog 24 #[.slice A l.length c, .int .i64 a] w fun e w' => e = .returned (.string ⟨(textB l a).toArray⟩) ∧ Below w.heap.size w w' := by
  obtain ⟨iu, hiu, hu0, hu1, hu2⟩ := info_parts infoB
  have cP := refPlace_any A l c a w hr (by omega) hf
  unfold textB
  cases hp : placeB l a with
  | false =>
    rw [hp] at cP
    have CP := Kept.mk cP
    rw [if_neg (by simp)]
    clear cP hr hf hp
    go_enter Tryz.func24, Tryz.ntmps24
    go_wp2_with (go_at_call 43; refine CP.out.mono ?_; rintro e w1 ⟨rfl, hb1⟩)
    go_ret
    exact ⟨rfl, hb1⟩
  | true =>
    obtain ⟨i, rfl, hi⟩ := place_in hp
    obtain ⟨hg, ho⟩ := place_rng hp
    have hv := place_small hp
    rw [hp] at cP
    rw [if_pos rfl, Int.toNat_natCast]
    obtain ⟨s1, s2, _, _⟩ := Ptr.endN_spec l i hi
    have CP := Kept.mk cP
    have CN := Kept.mk (fun wx hx => refend_any A l c i wx hx hg ho hi (by omega))
    have hT : textN l i = if (Ptr.kin l i == 1 || Ptr.kin l i == 2) = true then textsFrom l i (Ptr.endN l i) else Ptr.val l i := by unfold textN; rw [endN_same]
    generalize Ptr.endN l i = E at s1 s2 CN hT
    obtain ⟨m, rfl⟩ : ∃ m, E = i + m := ⟨E - i, by omega⟩
    have HR := Kept.mk hr
    have HV := Kept.mk hv
    have i0 : (0 : Int) ≤ (i : Int) := by omega
    have i1 : (i : Int) < (l.length : Int) := by omega
    obtain ⟨b, off, rfl, c0, _, c2, _⟩ := hr.at_ hi
    simp only at c0 c2
    have e1 : (((Ptr.kin l i : Nat) : Int) != 1) = !(Ptr.kin l i == 1) := congrArg Bool.not (beq_i _ 1)
    have e2 : (((Ptr.kin l i : Nat) : Int) != 2) = !(Ptr.kin l i == 2) := congrArg Bool.not (beq_i _ 2)
    generalize Ptr.kin l i = K at c0 hT e1 e2
    generalize (K == 1) = x1 at hT e1
    generalize (K == 2) = x2 at hT e2
    have HT := Kept.mk hT
    have HC0 := Kept.mk c0; have HC2 := Kept.mk c2
    clear cP hr hf hp hg ho hv hT c0 c2
    have plain : x1 = false → x2 = false → Calls Tryz.prog 24 #[.slice (some ⟨b, off, none⟩) l.length c, .int .i64 i] w fun e w' => e = .returned (.string ⟨(textN l i).toArray⟩) ∧ Below w.heap.size w w' := by
      rintro rfl rfl
      go_enter Tryz.func24, Tryz.ntmps24
      go_wp2_with (go_at_call 43; refine CP.out.mono ?_; rintro e w1 ⟨rfl, hb1⟩; have c0 := cell_keep hb1 HC0.out; have c2 := cell_keep hb1 HC2.out)
      go_ret
      exact ⟨ret_str (by rw [HT.out]; rfl), hb1⟩
    have build : (x1 || x2) = true → Calls Tryz.prog 24 #[.slice (some ⟨b, off, none⟩) l.length c, .int .i64 i] w fun e w' => e = .returned (.string ⟨(textN l i).toArray⟩) ∧ Below w.heap.size w w' := by
      intro hx
      have HT2 : Kept (textN l i = textsFrom l i (i + m)) := ⟨by rw [HT.out, if_pos hx]⟩
      have HX := Kept.mk hx
      clear hx HT
      cases x1 <;> cases x2
      · exact absurd HX.out (by simp)
      all_goals
        go_enter Tryz.func24, Tryz.ntmps24
        go_wp2_with (go_at_call 43; refine CP.out.mono ?_; rintro e w1 ⟨rfl, hb1⟩; have B1 := Kept.mk hb1; have c0 := cell_keep hb1 HC0.out; clear hb1)
        clear c0
        go_loopw [5, 6] (fun v j wx => ∃ d : Nat, d ≤ m ∧ j = .int .i64 ((i : Int) + (d : Int)) ∧ Kept (wx.ownsRow w.heap.size 5 1 v (textsFrom l i (i + d)).length (bc (textsFrom l i (i + d)))) ∧ Kept (Below w.heap.size w wx)) (fun _ j _ => i + m - (intOf j).toNat)
        case atStart => exact ⟨0, by omega, by go_num, ⟨by rw [show textsFrom l i (i + 0) = [] by simp [textsFrom]]; exact World.ownsRow_nil _ _ _ _⟩, B1⟩
        case round =>
          obtain ⟨d, hd, rfl, HO, HB⟩ := hrel
          obtain ⟨A2, c2, rfl⟩ : ∃ A c, _ = Value.slice A (textsFrom l i (i + d)).length c := by
            rcases HO.out.2 with ⟨h, hn⟩ | ⟨g, cap, cur, h, _⟩
            · rw [hn]; exact ⟨none, 0, h⟩
            · exact ⟨_, cap, h⟩
          have s3 := HB.out.size
          have d0 : (0 : Int) ≤ (d : Int) := by omega
          by_cases hlt : d < m
          · have d1 : (i : Int) + (d : Int) < (i : Int) + (m : Int) := by omega
            have d2 : (i : Int) + (d : Int) < (l.length : Int) := by omega
            obtain ⟨k0, k1, k2, k3⟩ := (HR.out.below HB.out).cells (i := i + d) (by omega)
            simp only at k0 k2
            have hst := textsFrom_step l i (i + d) (by omega)
            have hln := textsFrom_len l i 65536 HV.out d
            have hvl := HV.out (i + d)
            have e4 : (((Ptr.kin l (i + d) : Nat) : Int) == 4) = (Ptr.kin l (i + d) == 4) := beq_i _ 4
            generalize Ptr.kin l (i + d) = K4 at k0 hst e4
            generalize (K4 == 4) = x4 at hst e4
            obtain ⟨V, hV⟩ : ∃ V : ByteArray, V = ⟨(Ptr.val l (i + d)).toArray⟩ := ⟨_, rfl⟩
            have hVd : V.data.toList = Ptr.val l (i + d) := by rw [hV]
            have hVs : V.size = (Ptr.val l (i + d)).length := by rw [hV]; show (Ptr.val l (i + d)).toArray.size = _; simp
            rw [← hV] at k2
            have hb1 : (textsFrom l i (i + d)).length ≤ 16384 * 65536 := Nat.le_trans hln (Nat.mul_le_mul_right _ (by omega))
            have zz : (textsFrom l i (i + d)).length + V.size ≤ 1000000000000 := by omega
            have HST := Kept.mk hst
            have HVD := Kept.mk hVd
            have HVS := Kept.mk hVs
            clear hst hVd hV hVs hln hvl hb1 k1 k3
            generalize hTX : textsFrom l i (i + d) = TX at HO zz HST ⊢
            clear hTX
            cases x4 with
            | true =>
              have hs2 : Kept (textsFrom l i (i + d + 1) = TX ++ V.data.toList) := ⟨by rw [HST.out, if_pos rfl, HVD.out]⟩
              clear HST
              go_wp2_with (first | (go_at_call 52; refine (CN.out _ (HR.out.below HB.out)).mono ?_; rintro e w2 ⟨rfl, rfl⟩) | (at_builtin; refine Lib.wpList_append_own_string _ rfl (.tmp 44) (.tmp 49) 86 9 rfl w.heap.size 5 iu Tryz.underlying86 Tryz.underlying9 hiu hu0 hu1 hu2 _ TX.length (bc TX) (by rfl) HO.out V (by rfl) (by unfold maxLen; omega) (by omega) s3 ?_; intro v5 w5 hO5 hg5 _; have B5 := Kept.mk (HB.out.grown hg5 s3 (fun q hq => (HO.out.lt q hq).1)); have O5 := Kept.mk hO5; clear hO5 hg5))
              go_roundw
              case rel => exact ⟨d + 1, by omega, by go_num, ⟨by rw [← Nat.add_assoc, hs2.out, bc_append, List.length_append, Array.length_toList]; exact O5.out⟩, B5⟩
              case measure => simp [intOf]; omega
            | false =>
              have hs2 : Kept (textsFrom l i (i + d + 1) = TX) := ⟨by rw [HST.out, if_neg (by simp), List.append_nil]⟩
              clear HST
              go_wp2_with (go_at_call 52; refine (CN.out _ (HR.out.below HB.out)).mono ?_; rintro e w2 ⟨rfl, rfl⟩)
              go_roundw
              case rel => exact ⟨d + 1, by omega, by go_num, ⟨by rw [← Nat.add_assoc, hs2.out]; exact HO.out⟩, HB⟩
              case measure => simp [intOf]; omega
          · obtain rfl : d = m := by omega
            have d1 : ¬ (i : Int) + (d : Int) < (i : Int) + (d : Int) := by omega
            have hcv := conv_ownB _ HO.out rfl
            have HT3 := HT2
            rw [← HT2.out] at hcv HO ⊢
            clear HT3
            go_wp2_with (go_at_call 52; refine (CN.out _ (HR.out.below HB.out)).mono ?_; rintro e w2 ⟨rfl, rfl⟩)
            go_ret
            exact ⟨rfl, HB.out⟩
    cases x1 with
    | true => exact build rfl
    | false =>
      cases x2 with
      | true => exact build rfl
      | false => exact plain rfl rfl
/-- does a test take a node of this kind and name? -/
def takesB (K : Nat) (nm : ByteArray) (X T : Int) (name : ByteArray) : Bool :=
  if (T == 1) = true then true
  else if (T == 2) = true then ((K : Int) == if (X == 9) = true then 3 else 2) && (nm.toList == name.toList)
  else if (T == 3) = true then ((K : Int) == if (X == 9) = true then 3 else 2)
  else if (T == 4) = true then ((K : Int) == 4)
  else if (T == 5) = true then ((K : Int) == 5)
  else if (T == 6) = true then ((K : Int) == 6) && (name.toList.isEmpty || nm.toList == name.toList)
  else false
set_option maxHeartbeats 4000000 in
theorem takes_walk (b off : Nat) (l : List Ptr.Nd) (c i : Nat) (X T : Int) (name y1 y2 : ByteArray) (K : Nat) (P : Int) (w : World) (hi : i < l.length)
    (hcP : Calls Tryz.prog 32 #[.slice (some ⟨b, off, none⟩) l.length c, .int .i64 i] w fun e w' => e = .returned (.bool true) ∧ Below w.heap.size w w')
    (c0 : w.cell? ⟨b, off + i * 4, none⟩ = some (.int .u8 K)) (c1 : w.cell? ⟨b, off + i * 4 + 1, none⟩ = some (.string y1)) (c2 : w.cell? ⟨b, off + i * 4 + 2, none⟩ = some (.string y2)) (c3 : w.cell? ⟨b, off + i * 4 + 3, none⟩ = some (.int .i64 P)) :
    Calls Tryz.prog 27 #[.slice (some ⟨b, off, none⟩) l.length c, .int .i64 i, .int .u8 X, .int .u8 T, .string name] w fun e w' => e = .returned (.bool (takesB K y1 X T name)) ∧ Below w.heap.size w w' := by
  have C0 := Kept.mk c0; have C1 := Kept.mk c1; have C2 := Kept.mk c2; have C3 := Kept.mk c3; have CP := Kept.mk hcP
  have i0 : (0 : Int) ≤ (i : Int) := by omega
  have i1 : (i : Int) < (l.length : Int) := by omega
  obtain ⟨R, hR⟩ : ∃ R, takesB K y1 X T name = R := ⟨_, rfl⟩
  rw [hR]
  unfold takesB at hR
  have HRR := Kept.mk hR
  clear c0 c1 c2 c3 hcP hR
  go_enter Tryz.func27, Tryz.ntmps27
  go_wp2_with (go_at_call 32; refine CP.out.mono ?_; rintro e w1 ⟨rfl, hb1⟩; have B1 := Kept.mk hb1; have c0 := cell_keep hb1 C0.out; have c1 := cell_keep hb1 C1.out; have c2 := cell_keep hb1 C2.out; have c3 := cell_keep hb1 C3.out; clear hb1)
  all_goals go_ret
  all_goals refine ⟨ret_bool ?_, B1.out.alloc B1.out.size _⟩
  all_goals (rw [← HRR.out]; clear HRR C0 C1 C2 C3 CP c0 c1 c2 c3 B1 i0 i1 hi; simp [*])
set_option maxHeartbeats 4000000 in
theorem refTakes_walk (b off : Nat) (l : List Ptr.Nd) (c i : Nat) (X T : Int) (name y1 y2 : ByteArray) (K : Nat) (P : Int) (w : World) (hi : i < l.length)
    (hcP : Calls Tryz.prog 43 #[.slice (some ⟨b, off, none⟩) l.length c, .int .i64 i] w fun e w' => e = .returned (.bool true) ∧ Below w.heap.size w w')
    (c0 : w.cell? ⟨b, off + i * 4, none⟩ = some (.int .u8 K)) (c1 : w.cell? ⟨b, off + i * 4 + 1, none⟩ = some (.string y1)) (c2 : w.cell? ⟨b, off + i * 4 + 2, none⟩ = some (.string y2)) (c3 : w.cell? ⟨b, off + i * 4 + 3, none⟩ = some (.int .i64 P)) :
    Calls Tryz.prog 28 #[.slice (some ⟨b, off, none⟩) l.length c, .int .i64 i, .int .u8 X, .int .u8 T, .string name] w fun e w' => e = .returned (.bool (takesB K y1 X T name)) ∧ Below w.heap.size w w' := by
  have C0 := Kept.mk c0; have C1 := Kept.mk c1; have C2 := Kept.mk c2; have C3 := Kept.mk c3; have CP := Kept.mk hcP
  have i0 : (0 : Int) ≤ (i : Int) := by omega
  have i1 : (i : Int) < (l.length : Int) := by omega
  obtain ⟨R, hR⟩ : ∃ R, takesB K y1 X T name = R := ⟨_, rfl⟩
  rw [hR]
  unfold takesB at hR
  have HRR := Kept.mk hR
  clear c0 c1 c2 c3 hcP hR
  go_enter Tryz.func28, Tryz.ntmps28
  go_wp2_with (go_at_call 43; refine CP.out.mono ?_; rintro e w1 ⟨rfl, hb1⟩; have B1 := Kept.mk hb1; have c0 := cell_keep hb1 C0.out; have c1 := cell_keep hb1 C1.out; have c2 := cell_keep hb1 C2.out; have c3 := cell_keep hb1 C3.out; clear hb1)
  all_goals go_ret
  all_goals refine ⟨ret_bool ?_, B1.out.alloc B1.out.size _⟩
  all_goals (rw [← HRR.out]; clear HRR C0 C1 C2 C3 CP c0 c1 c2 c3 B1 i0 i1 hi; simp [*])
/-- what a test takes; nothing, where there is no such place -/
def takesL (l : List Ptr.Nd) (a X T : Int) (name : ByteArray) : Bool := if placeB l a = true then takesB (Ptr.kin l a.toNat) ⟨(Ptr.nam l a.toNat).toArray⟩ X T name else false
set_option maxHeartbeats 1000000 in
theorem Takes_any (A : Option Addr) (l : List Ptr.Nd) (c : Nat) (a X T : Int) (name : ByteArray) (w : World) (hr : RdN w A l) (hl : l.length ≤ 16384) (hf : FitP l) (hE : TEnv w) :
    Calls Tryz.prog 27 #[.slice A l.length c, .int .i64 a, .int .u8 X, .int .u8 T, .string name] w fun e w' => e = .returned (.bool (takesL l a X T name)) ∧ Below w.heap.size w w' := by
  have cP := place_any A l c a w hr (by omega) hf hE
  unfold takesL
  cases hp : placeB l a with
  | false =>
    rw [hp] at cP
    have CP := Kept.mk cP
    rw [if_neg (by simp)]
    clear cP hr hf hE hp
    go_enter Tryz.func27, Tryz.ntmps27
    go_wp2_with (go_at_call 32; refine CP.out.mono ?_; rintro e w1 ⟨rfl, hb1⟩)
    go_ret
    exact ⟨rfl, hb1⟩
  | true =>
    obtain ⟨i, rfl, hi⟩ := place_in hp
    obtain ⟨b, off, rfl, c0, c1, c2, c3⟩ := hr.at_ hi
    rw [hp] at cP
    rw [if_pos rfl, Int.toNat_natCast]
    exact takes_walk b off l c i X T name _ _ _ _ w hi cP c0 c1 c2 c3
set_option maxHeartbeats 1000000 in
theorem refTakes_any (A : Option Addr) (l : List Ptr.Nd) (c : Nat) (a X T : Int) (name : ByteArray) (w : World) (hr : RdN w A l) (hl : l.length ≤ 16384) (hf : FitL l) :
    Calls Tryz.prog 28 #[.slice A l.length c, .int .i64 a, .int .u8 X, .int .u8 T, .string name] w fun e w' => e = .returned (.bool (takesL l a X T name)) ∧ Below w.heap.size w w' := by
  have cP := refPlace_any A l c a w hr (by omega) hf
  unfold takesL
  cases hp : placeB l a with
  | false =>
    rw [hp] at cP
    have CP := Kept.mk cP
    rw [if_neg (by simp)]
    clear cP hr hf hp
    go_enter Tryz.func28, Tryz.ntmps28
    go_wp2_with (go_at_call 43; refine CP.out.mono ?_; rintro e w1 ⟨rfl, hb1⟩)
    go_ret
    exact ⟨rfl, hb1⟩
  | true =>
    obtain ⟨i, rfl, hi⟩ := place_in hp
    obtain ⟨b, off, rfl, c0, c1, c2, c3⟩ := hr.at_ hi
    rw [hp] at cP
    rw [if_pos rfl, Int.toNat_natCast]
    exact refTakes_walk b off l c i X T name _ _ _ _ w hi cP c0 c1 c2 c3
end Go.Proofs.YtkcpfjhdbbapiaaGreatDoor.Wtr
