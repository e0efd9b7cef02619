/- The walks over Check, Fragment and place, of the program and of the document (chapter 06). -/
import Derived.Test.YtkcpfjhdbbapiaaGreatDoorTreeAll1
import Derived.Test.YtkcpfjhdbbapiaaGreatDoorTreeAll0
import Derived.Test.YtkcpfjhdbbapiaaGreatDoorTreeWalksH
namespace Go.Proofs.YtkcpfjhdbbapiaaGreatDoor.Wtr
open Go Go.RowKit Go.Proofs.YtkcpfjhdbbapiaaGreatDoor.Kb

theorem check_any (A : Option Addr) (l : List Ptr.Nd) (c : Nat) (w : World) (hr : RdN w A l) (hl : l.length ≤ 100000) (hf : FitP l) (hE : TEnv w) :
    Calls Tryz.prog 30 #[.slice A l.length c] w fun e w' => e = .returned (.int .i64 (Ptr.chk l true)) ∧ Below w.heap.size w w' := by
  have cA := Kept.mk (all_tree A l c w hr hl hf hE)
  clear hr hf hE
  go_enter Tryz.func30, Tryz.ntmps30
  go_wp2_with (go_at_call 55; refine cA.out.mono ?_; rintro e w' ⟨rfl, hb⟩)
  go_ret
  exact ⟨rfl, hb⟩
theorem fragment_any (A : Option Addr) (l : List Ptr.Nd) (c : Nat) (w : World) (hr : RdN w A l) (hl : l.length ≤ 100000) (hf : FitP l) (hE : TEnv w) :
    Calls Tryz.prog 57 #[.slice A l.length c] w fun e w' => e = .returned (.int .i64 (Ptr.chk l false)) ∧ Below w.heap.size w w' := by
  have cA := Kept.mk (all_frag A l c w hr hl hf hE)
  clear hr hf hE
  go_enter Tryz.func57, Tryz.ntmps57
  go_wp2_with (go_at_call 55; refine cA.out.mono ?_; rintro e w' ⟨rfl, hb⟩)
  go_ret
  exact ⟨rfl, hb⟩
theorem refcheck_any (A : Option Addr) (l : List Ptr.Nd) (c : Nat) (w : World) (hr : RdN w A l) (hl : l.length ≤ 100000) (hf : FitL l) :
    Calls Tryz.prog 63 #[.slice A l.length c] w fun e w' => e = .returned (.int .i64 (Ptr.chk l true)) ∧ Below w.heap.size w w' := by
  have cA := Kept.mk (refCheck_any A l c true w hr hl hf)
  clear hr hf
  go_enter Tryz.func63, Tryz.ntmps63
  go_wp2_with (go_at_call 85; refine cA.out.mono ?_; rintro e w' ⟨rfl, hb⟩)
  go_ret
  exact ⟨rfl, hb⟩
theorem reffragment_any (A : Option Addr) (l : List Ptr.Nd) (c : Nat) (w : World) (hr : RdN w A l) (hl : l.length ≤ 100000) (hf : FitL l) :
    Calls Tryz.prog 64 #[.slice A l.length c] w fun e w' => e = .returned (.int .i64 (Ptr.chk l false)) ∧ Below w.heap.size w w' := by
  have cA := Kept.mk (refCheck_any A l c false w hr hl hf)
  clear hr hf
  go_enter Tryz.func64, Tryz.ntmps64
  go_wp2_with (go_at_call 85; refine cA.out.mono ?_; rintro e w' ⟨rfl, hb⟩)
  go_ret
  exact ⟨rfl, hb⟩
end Go.Proofs.YtkcpfjhdbbapiaaGreatDoor.Wtr
