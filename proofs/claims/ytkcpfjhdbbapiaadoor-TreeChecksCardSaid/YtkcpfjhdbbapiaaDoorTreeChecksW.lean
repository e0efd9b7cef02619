/- The walk over the statement TreeChecks (chapter 06). -/
import Derived.Test.YtkcpfjhdbbapiaaDoorTreeAwake
import Derived.Test.YtkcpfjhdbbapiaaDoorLentNodes
namespace Go.Proofs.YtkcpfjhdbbapiaaDoor.Wtr
open Go Go.RowKit Go.Proofs.YtkcpfjhdbbapiaaDoor.Kb Go.Proofs.YtkcpfjhdbbapiaaDoor.Flt

set_option maxRecDepth 100000 in
set_option maxHeartbeats 4000000 in
theorem law_checks (A : Option Addr) (l : List Ptr.Nd) (c : Nat) (w : World) (hr : RdN w A l) (hc : A = none → c = 0) (hp : FitP l) (hf : FitL l) (hE : TEnv w) :
    Calls Tryd.prog 3 #[.slice A l.length c] w fun e w' => e = .returned (.bool true) ∧ Below w.heap.size w w' := by
  have cA := awake_any w hE
  by_cases hl : l.length ≤ 300
  · have b1 : ¬ (300 : Int) < (l.length : Int) := by omega
    have cL := fun wx hx => lentNodes_any A l c wx hx hc (by omega)
    have cC := fun wx B hx hy => check_any B l (l.length + 12) wx hx (by omega) hp hy
    have cF := fun wx B hx hy => fragment_any B l (l.length + 12) wx hx (by omega) hp hy
    have cRC := fun wx hx => refcheck_any A l c wx hx (by omega) hf
    have cRF := fun wx hx => reffragment_any A l c wx hx (by omega) hf
    have cK := fun wx g hx hy => keptNodes_any g A l c wx hx hy (by omega)
    have e1 : ((Ptr.chk l true : Int) == (Ptr.chk l true : Int)) = true := beq_self_eq_true _
    have e2 : ((Ptr.chk l false : Int) == (Ptr.chk l false : Int)) = true := beq_self_eq_true _
    generalize Ptr.chk l true = C1 at cC cRC e1
    generalize Ptr.chk l false = C2 at cF cRF e2
    have CA := Kept.mk cA; have CL := Kept.mk cL; have CC := Kept.mk cC; have CF := Kept.mk cF; have CRC := Kept.mk cRC; have CRF := Kept.mk cRF; have CK := Kept.mk cK
    have HR := Kept.mk hr; have HE := Kept.mk hE
    clear cA cL cC cF cRC cRF cK hr hE hp hf hc
    go_enter Tryd.func3, Tryd.ntmps3
    go_wp2_with (first | (go_at_call 7; refine CA.out.mono ?_; rintro e w1 ⟨rfl, hb1⟩; have B1 := Kept.mk hb1; clear hb1) | (go_at_call 8; refine (CL.out _ (HR.out.below B1.out)).mono ?_; rintro e w2 ⟨rfl, hO, hb2⟩; have RL := Kept.mk (rdn_lent hO); have B2 := Kept.mk (B1.out.trans (hb2.mono B1.out.size)); clear hO hb2) | (go_at_call 9; refine (CC.out _ _ (rdn_left RL.out) (HE.out.below B2.out)).mono ?_; rintro e w3 ⟨rfl, hb3⟩; have R3 := Kept.mk (RL.out.below hb3); have B3 := Kept.mk (B2.out.trans (hb3.mono B2.out.size)); clear hb3) | (go_at_call 10; refine (CRC.out _ (HR.out.below B3.out)).mono ?_; rintro e w4 ⟨rfl, hb4⟩; have R4 := Kept.mk (R3.out.below hb4); have B4 := Kept.mk (B3.out.trans (hb4.mono B3.out.size)); clear hb4) | (go_at_call 11; refine (CF.out _ _ (rdn_left R4.out) (HE.out.below B4.out)).mono ?_; rintro e w5 ⟨rfl, hb5⟩; have R5 := Kept.mk (R4.out.below hb5); have B5 := Kept.mk (B4.out.trans (hb5.mono B4.out.size)); clear hb5) | (go_at_call 12; refine (CRF.out _ (HR.out.below B5.out)).mono ?_; rintro e w6 ⟨rfl, hb6⟩; have R6 := Kept.mk (R5.out.below hb6); have B6 := Kept.mk (B5.out.trans (hb6.mono B5.out.size)); clear hb6) | (go_at_call 13; refine (CK.out _ _ R6.out (HR.out.below B6.out)).mono ?_; rintro e w7 ⟨rfl, hb7⟩; have B7 := Kept.mk (B6.out.trans (hb7.mono B6.out.size)); clear hb7))
    go_ret
    exact ⟨rfl, B7.out⟩
  · have b1 : (300 : Int) < (l.length : Int) := by omega
    have CA := Kept.mk cA
    clear cA hr hE hp hf hc
    go_enter Tryd.func3, Tryd.ntmps3
    go_wp2_with (go_at_call 7; refine CA.out.mono ?_; rintro e w1 ⟨rfl, hb1⟩)
    go_ret
    exact ⟨rfl, hb1⟩
end Go.Proofs.YtkcpfjhdbbapiaaDoor.Wtr
