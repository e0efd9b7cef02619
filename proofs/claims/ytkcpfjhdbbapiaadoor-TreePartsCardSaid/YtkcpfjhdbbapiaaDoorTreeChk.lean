/- The walks over Check, Fragment and place, of the program and of the document (chapter 06). -/
import Derived.Test.YtkcpfjhdbbapiaaDoorTreeAll1
import Derived.Test.YtkcpfjhdbbapiaaDoorTreeAll0
import Derived.Test.YtkcpfjhdbbapiaaDoorTreeWalksH
namespace Go.Proofs.YtkcpfjhdbbapiaaDoor.Wtr
open Go Go.RowKit Go.Proofs.YtkcpfjhdbbapiaaDoor.Kb

theorem check_any (A : Option Addr) (l : List Ptr.Nd) (c : Nat) (w : World) (hr : RdN w A l) (hl : l.length ≤ 100000) (hf : FitP l) (hE : TEnv w) :
    Calls Tryd.prog 9 #[.slice A l.length c] w fun e w' => e = .returned (.int .i64 (Ptr.chk l true)) ∧ Below w.heap.size w w' := by
  have cA := Kept.mk (all_tree A l c w hr hl hf hE)
  clear hr hf hE
  go_enter Tryd.func9, Tryd.ntmps9
  go_wp2_with (go_at_call 24; refine cA.out.mono ?_; rintro e w' ⟨rfl, hb⟩)
  go_ret
  exact ⟨rfl, hb⟩
theorem fragment_any (A : Option Addr) (l : List Ptr.Nd) (c : Nat) (w : World) (hr : RdN w A l) (hl : l.length ≤ 100000) (hf : FitP l) (hE : TEnv w) :
    Calls Tryd.prog 11 #[.slice A l.length c] w fun e w' => e = .returned (.int .i64 (Ptr.chk l false)) ∧ Below w.heap.size w w' := by
  have cA := Kept.mk (all_frag A l c w hr hl hf hE)
  clear hr hf hE
  go_enter Tryd.func11, Tryd.ntmps11
  go_wp2_with (go_at_call 24; refine cA.out.mono ?_; rintro e w' ⟨rfl, hb⟩)
  go_ret
  exact ⟨rfl, hb⟩
theorem refcheck_any (A : Option Addr) (l : List Ptr.Nd) (c : Nat) (w : World) (hr : RdN w A l) (hl : l.length ≤ 100000) (hf : FitL l) :
    Calls Tryd.prog 10 #[.slice A l.length c] w fun e w' => e = .returned (.int .i64 (Ptr.chk l true)) ∧ Below w.heap.size w w' := by
  have cA := Kept.mk (refCheck_any A l c true w hr hl hf)
  clear hr hf
  go_enter Tryd.func10, Tryd.ntmps10
  go_wp2_with (go_at_call 25; refine cA.out.mono ?_; rintro e w' ⟨rfl, hb⟩)
  go_ret
  exact ⟨rfl, hb⟩
theorem reffragment_any (A : Option Addr) (l : List Ptr.Nd) (c : Nat) (w : World) (hr : RdN w A l) (hl : l.length ≤ 100000) (hf : FitL l) :
    Calls Tryd.prog 12 #[.slice A l.length c] w fun e w' => e = .returned (.int .i64 (Ptr.chk l false)) ∧ Below w.heap.size w w' := by
  have cA := Kept.mk (refCheck_any A l c false w hr hl hf)
  clear hr hf
  go_enter Tryd.func12, Tryd.ntmps12
  go_wp2_with (go_at_call 25; refine cA.out.mono ?_; rintro e w' ⟨rfl, hb⟩)
  go_ret
  exact ⟨rfl, hb⟩
end Go.Proofs.YtkcpfjhdbbapiaaDoor.Wtr
