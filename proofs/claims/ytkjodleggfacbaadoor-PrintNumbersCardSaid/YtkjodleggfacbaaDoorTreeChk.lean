/- The walks over Check, Fragment and place, of the program and of the document (chapter 06). -/
import Derived.Test.YtkjodleggfacbaaDoorTreeAll1
import Derived.Test.YtkjodleggfacbaaDoorTreeAll0
import Derived.Test.YtkjodleggfacbaaDoorTreeWalksH
namespace Go.Proofs.YtkjodleggfacbaaDoor.Wtr
open Go Go.RowKit Go.Proofs.YtkjodleggfacbaaDoor.Kb

theorem check_any (A : Option Addr) (l : List Ptr.Nd) (c : Nat) (w : World) (hr : RdN w A l) (hl : l.length ≤ 100000) (hf : FitP l) (hE : TEnv w) :
    Calls Tryd.prog 20 #[.slice A l.length c] w fun e w' => e = .returned (.int .i64 (Ptr.chk l true)) ∧ Below w.heap.size w w' := by
  have cA := Kept.mk (all_tree A l c w hr hl hf hE)
  clear hr hf hE
  go_enter Tryd.func20, Tryd.ntmps20
  go_wp2_with (go_at_call 31; refine cA.out.mono ?_; rintro e w' ⟨rfl, hb⟩)
  go_ret
  exact ⟨rfl, hb⟩
theorem fragment_any (A : Option Addr) (l : List Ptr.Nd) (c : Nat) (w : World) (hr : RdN w A l) (hl : l.length ≤ 100000) (hf : FitP l) (hE : TEnv w) :
    Calls Tryd.prog 23 #[.slice A l.length c] w fun e w' => e = .returned (.int .i64 (Ptr.chk l false)) ∧ Below w.heap.size w w' := by
  have cA := Kept.mk (all_frag A l c w hr hl hf hE)
  clear hr hf hE
  go_enter Tryd.func23, Tryd.ntmps23
  go_wp2_with (go_at_call 31; refine cA.out.mono ?_; rintro e w' ⟨rfl, hb⟩)
  go_ret
  exact ⟨rfl, hb⟩
theorem refcheck_any (A : Option Addr) (l : List Ptr.Nd) (c : Nat) (w : World) (hr : RdN w A l) (hl : l.length ≤ 100000) (hf : FitL l) :
    Calls Tryd.prog 24 #[.slice A l.length c] w fun e w' => e = .returned (.int .i64 (Ptr.chk l true)) ∧ Below w.heap.size w w' := by
  have cA := Kept.mk (refCheck_any A l c true w hr hl hf)
  clear hr hf
  go_enter Tryd.func24, Tryd.ntmps24
  go_wp2_with (go_at_call 34; refine cA.out.mono ?_; rintro e w' ⟨rfl, hb⟩)
  go_ret
  exact ⟨rfl, hb⟩
theorem reffragment_any (A : Option Addr) (l : List Ptr.Nd) (c : Nat) (w : World) (hr : RdN w A l) (hl : l.length ≤ 100000) (hf : FitL l) :
    Calls Tryd.prog 26 #[.slice A l.length c] w fun e w' => e = .returned (.int .i64 (Ptr.chk l false)) ∧ Below w.heap.size w w' := by
  have cA := Kept.mk (refCheck_any A l c false w hr hl hf)
  clear hr hf
  go_enter Tryd.func26, Tryd.ntmps26
  go_wp2_with (go_at_call 34; refine cA.out.mono ?_; rintro e w' ⟨rfl, hb⟩)
  go_ret
  exact ⟨rfl, hb⟩
end Go.Proofs.YtkjodleggfacbaaDoor.Wtr
