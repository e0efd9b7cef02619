/- The walk over the statement TreeTells (chapter 06). -/
import Derived.Test.YtkcpfjhdbbapiaaGreatDoorTreeRef
import Derived.Test.YtkcpfjhdbbapiaaGreatDoorTreeAwake
namespace Go.Proofs.YtkcpfjhdbbapiaaGreatDoor.Wtr
open Go Go.RowKit Go.Proofs.YtkcpfjhdbbapiaaGreatDoor.Kb Go.Proofs.YtkcpfjhdbbapiaaGreatDoor.Flt

theorem kidsB_le (l : List Ptr.Nd) (a : Int) (at' : Bool) : (kidsB l a at').length ≤ l.length := by
  unfold kidsB
  split
  · rename_i h
    obtain ⟨i, rfl, hi⟩ := place_in h
    have h1 := Ptr.kidsL_le l i at' (i + 1) (Ptr.endN l i)
    have h2 := (Ptr.endN_spec l i hi).2.1
    rw [Int.toNat_natCast]
    omega
  · simp
theorem partB_le (l : List Ptr.Nd) (a : Int) : (partB l a).length ≤ l.length := by
  unfold partB
  split
  · rename_i h
    obtain ⟨i, rfl, hi⟩ := place_in h
    have h2 := (Ptr.endN_spec l i hi).2.1
    rw [Int.toNat_natCast, partN_len]
    omega
  · simp
set_option maxRecDepth 100000 in
set_option maxHeartbeats 8000000 in
theorem law_tells (A : Option Addr) (l : List Ptr.Nd) (c : Nat) (a X T : Int) (name : ByteArray) (w : World) (hr : RdN w A l) (hc : A = none → c = 0) (hp : FitP l) (hf : FitL l) (hE : TEnv w) :
    Calls Tryz.prog 5 #[.slice A l.length c, .int .i64 a, .int .u8 X, .int .u8 T, .string name] w fun e w' => e = .returned (.bool true) ∧ Below w.heap.size w w' := by
  have CA := Kept.mk (awake_any w hE)
  by_cases hl : l.length ≤ 300
  · have b1 : ¬ (300 : Int) < (l.length : Int) := by omega
    have HR := Kept.mk hr; have HE := Kept.mk hE
    have CL := Kept.mk (fun wx hx => lentNodes_any A l c wx hx hc (by omega))
    have lK := kidsB_le l a false
    have lA := kidsB_le l a true
    have lP := partB_le l a
    have CK := Kept.mk (fun g wx hx hy => Kids_any (some ⟨g, 0, none⟩) l (l.length + 12) a wx hx (by omega) hp hy)
    have CRK := Kept.mk (fun wx hx => refKids_any A l c a wx hx (by omega) hf)
    have CAt := Kept.mk (fun g wx hx hy => Attributes_any (some ⟨g, 0, none⟩) l (l.length + 12) a wx hx (by omega) hp hy)
    have CRA := Kept.mk (fun wx hx => refAttributes_any A l c a wx hx (by omega) hf)
    have CE := Kept.mk (fun g wx hx hy => End_any (some ⟨g, 0, none⟩) l (l.length + 12) a wx hx (by omega) hp hy)
    have CRE := Kept.mk (fun wx hx => refEnd_any A l c a wx hx (by omega) hf)
    have CT := Kept.mk (fun g wx hx hy => TextB_any (some ⟨g, 0, none⟩) l (l.length + 12) a wx hx (by omega) (by omega) hp hy)
    have CRT := Kept.mk (fun wx hx => refText_any A l c a wx hx (by omega) hf)
    have CP := Kept.mk (fun g wx hx hy => Part_any (some ⟨g, 0, none⟩) l (l.length + 12) a wx hx (by omega) (by omega) hp hy)
    have CRP := Kept.mk (fun wx hx => refPart_any A l c a wx hx (by omega) hf)
    have CX := Kept.mk (fun g wx hx hy => Takes_any (some ⟨g, 0, none⟩) l (l.length + 12) a X T name wx hx (by omega) hp hy)
    have CRX := Kept.mk (fun wx hx => refTakes_any A l c a X T name wx hx (by omega) hf)
    have CKN := Kept.mk (fun g wx hx hy => keptNodes_any g A l c wx hx hy (by omega))
    obtain ⟨yT, hyT⟩ : ∃ y : ByteArray, y = ⟨(textB l a).toArray⟩ := ⟨_, rfl⟩
    rw [← hyT] at CT CRT
    generalize kidsB l a false = LK at lK CK CRK
    generalize kidsB l a true = LA at lA CAt CRA
    generalize partB l a = PB at lP CP CRP
    generalize endB l a = EB at CE CRE
    generalize takesL l a X T name = TB at CX CRX
    clear hr hc hp hf hE hyT
    go_enter Tryz.func5, Tryz.ntmps5
    go_upto_region 6 with (first | (go_at_call 6; refine CA.out.mono ?_; rintro e w1 ⟨rfl, hb1⟩; have B1 := Kept.mk hb1; clear hb1) | (go_at_call 7; refine (CL.out _ (HR.out.below B1.out)).mono ?_; rintro e w2 ⟨rfl, hO, hb2⟩; have RM := Kept.mk (rdn_lent hO); have B2 := Kept.mk (B1.out.trans (hb2.mono B1.out.size)); clear hO hb2))
    have RL := Kept.mk (rdn_left RM.out)
    generalize w1.heap.size = g at RM RL ⊢
    go_cut [55] (fun x wx => x = .bool false ∧ Kept (Below w2.heap.size w2 wx))
    case first =>
      go_wp2_with (first
        | (go_at_call 17; refine (CK.out g _ RL.out (HE.out.below B2.out)).mono ?_; rintro e w3 ⟨v1, rfl, hO, hb⟩; have O3 := Kept.mk hO; have X3 := Kept.mk hb; clear hO hb)
        | (go_at_call 18; refine (CRK.out _ (HR.out.below (B2.out.trans (X3.out.mono B2.out.size)))).mono ?_; rintro e w4 ⟨v2, rfl, hO, hb⟩; have O4 := Kept.mk hO; have O3' := Kept.mk (own_below O3.out hb); have X4 := Kept.mk (X3.out.trans (hb.mono X3.out.size)); clear hO hb)
        | (go_at_call_of 8 v1; refine (sameInts_any LK v1 v2 _ _ _ O3'.out O4.out (by omega)).mono ?_; rintro e w5 ⟨rfl, hb⟩; have X5 := Kept.mk (X4.out.trans (hb.mono X4.out.size)); clear hb)
        | (go_at_call 19; refine (CAt.out g _ (RL.out.below X5.out) (HE.out.below (B2.out.trans (X5.out.mono B2.out.size)))).mono ?_; rintro e w6 ⟨v3, rfl, hO, hb⟩; have O6 := Kept.mk hO; have X6 := Kept.mk (X5.out.trans (hb.mono X5.out.size)); clear hO hb)
        | (go_at_call 20; refine (CRA.out _ (HR.out.below (B2.out.trans (X6.out.mono B2.out.size)))).mono ?_; rintro e w7 ⟨v4, rfl, hO, hb⟩; have O7 := Kept.mk hO; have O6' := Kept.mk (own_below O6.out hb); have X7 := Kept.mk (X6.out.trans (hb.mono X6.out.size)); clear hO hb)
        | (go_at_call_of 8 v3; refine (sameInts_any LA v3 v4 _ _ _ O6'.out O7.out (by omega)).mono ?_; rintro e w8 ⟨rfl, hb⟩; have X8 := Kept.mk (X7.out.trans (hb.mono X7.out.size)); clear hb)
        | (go_at_call 21; refine (CE.out g _ (RL.out.below X8.out) (HE.out.below (B2.out.trans (X8.out.mono B2.out.size)))).mono ?_; rintro e w9 ⟨rfl, hb⟩; have X9 := Kept.mk (X8.out.trans (hb.mono X8.out.size)); clear hb)
        | (go_at_call 22; refine (CRE.out _ (HR.out.below (B2.out.trans (X9.out.mono B2.out.size)))).mono ?_; rintro e w10 ⟨rfl, hb⟩; have X10 := Kept.mk (X9.out.trans (hb.mono X9.out.size)); clear hb)
        | (go_at_call 23; refine (CT.out g _ (RL.out.below X10.out) (HE.out.below (B2.out.trans (X10.out.mono B2.out.size)))).mono ?_; rintro e w11 ⟨rfl, hb⟩; have X11 := Kept.mk (X10.out.trans (hb.mono X10.out.size)); clear hb)
        | (go_at_call 24; refine (CRT.out _ (HR.out.below (B2.out.trans (X11.out.mono B2.out.size)))).mono ?_; rintro e w12 ⟨rfl, hb⟩; have X12 := Kept.mk (X11.out.trans (hb.mono X11.out.size)); clear hb))
      go_meet
      case rel => exact ⟨rfl, X12⟩
    case rest =>
      obtain ⟨rfl, X13⟩ := hcut
      have B13 := Kept.mk (B2.out.trans (X13.out.mono B2.out.size))
      have R13 := Kept.mk (RL.out.below X13.out)
      have M13 := Kept.mk (RM.out.below X13.out)
      clear X13 RM RL B2
      go_wp2_with (first
        | (go_at_call 14; refine (CP.out g _ R13.out (HE.out.below B13.out)).mono ?_; rintro e w14 ⟨v5, rfl, hO, hb⟩; have O14 := Kept.mk hO; have X14 := Kept.mk hb; clear hO hb)
        | (go_at_call 26; refine (CRP.out _ (HR.out.below (B13.out.trans (X14.out.mono B13.out.size)))).mono ?_; rintro e w15 ⟨v6, rfl, hO, hb⟩; have O15 := Kept.mk hO; have O14' := Kept.mk (own_below O14.out hb); have X15 := Kept.mk (X14.out.trans (hb.mono X14.out.size)); clear hO hb)
        | (go_at_call 25; refine (sameNodes_any PB v5 v6 _ _ _ O14'.out O15.out (by omega)).mono ?_; rintro e w16 ⟨rfl, hb⟩; have X16 := Kept.mk (X15.out.trans (hb.mono X15.out.size)); clear hb)
        | (go_at_call 27; refine (CX.out g _ (R13.out.below X16.out) (HE.out.below (B13.out.trans (X16.out.mono B13.out.size)))).mono ?_; rintro e w17 ⟨rfl, hb⟩; have X17 := Kept.mk (X16.out.trans (hb.mono X16.out.size)); clear hb)
        | (go_at_call 28; refine (CRX.out _ (HR.out.below (B13.out.trans (X17.out.mono B13.out.size)))).mono ?_; rintro e w18 ⟨rfl, hb⟩; have X18 := Kept.mk (X17.out.trans (hb.mono X17.out.size)); clear hb)
        | (go_at_call 11; refine (CKN.out g _ (M13.out.below X18.out) (HR.out.below (B13.out.trans (X18.out.mono B13.out.size)))).mono ?_; rintro e w19 ⟨rfl, hb⟩; have X19 := Kept.mk (X18.out.trans (hb.mono X18.out.size)); clear hb))
      go_ret
      exact ⟨rfl, B13.out.trans (X19.out.mono B13.out.size)⟩
  · have b1 : (300 : Int) < (l.length : Int) := by omega
    clear hr hc hp hf hE
    go_enter Tryz.func5, Tryz.ntmps5
    go_wp2_with (go_at_call 6; refine CA.out.mono ?_; rintro e w1 ⟨rfl, hb1⟩)
    go_ret
    exact ⟨rfl, hb1⟩
end Go.Proofs.YtkcpfjhdbbapiaaGreatDoor.Wtr
