/- The walks over place, End, and where Following goes (chapter 06). -/
import Derived.Test.YtemfmidhekdekaaGreatDoorTreeVd
import Derived.Test.YtemfmidhekdekaaGreatDoorTreeGoA
namespace Go.Proofs.YtemfmidhekdekaaGreatDoor.Wtr
open Go Go.RowKit Go.Proofs.YtemfmidhekdekaaGreatDoor.Kb Go.Proofs.YtemfmidhekdekaaGreatDoor.Flt

def placeB (l : List Ptr.Nd) (a : Int) : Bool := decide (0 ≤ a ∧ a < l.length) && (Ptr.chk l true == 0 || Ptr.chk l false == 0)
set_option maxHeartbeats 1000000 in
theorem place_any (A : Option Addr) (l : List Ptr.Nd) (c : Nat) (a : Int) (w : World) (hr : RdN w A l) (hl : l.length ≤ 100000) (hf : FitP l) (hE : TEnv w) :
    Calls Tryz.prog 31 #[.slice A l.length c, .int .i64 a] w fun e w' => e = .returned (.bool (placeB l a)) ∧ Below w.heap.size w w' := by
  have cK := fun wx (hx : Below w.heap.size w wx) => check_any A l c wx (hr.below hx) hl hf (hE.below hx)
  have cG := fun wx (hx : Below w.heap.size w wx) => fragment_any A l c wx (hr.below hx) hl hf (hE.below hx)
  generalize hB : placeB l a = B
  unfold placeB at hB
  have e1 : (((Ptr.chk l true : Nat) : Int) == 0) = (Ptr.chk l true == 0) := beq_i _ 0
  have e2 : (((Ptr.chk l false : Nat) : Int) == 0) = (Ptr.chk l false == 0) := beq_i _ 0
  generalize Ptr.chk l true = C1 at cK hB e1
  generalize Ptr.chk l false = C2 at cG hB e2
  generalize (C1 == 0) = x1 at hB e1
  generalize (C2 == 0) = x2 at hB e2
  have CK := Kept.mk cK
  have CG := Kept.mk cG
  have HB := Kept.mk hB
  clear cK cG hB hr hf hE
  by_cases h0 : 0 ≤ a
  · by_cases h1 : a < l.length
    · have hX : Kept ((x1 || x2) = B) := ⟨by rw [← HB.out, decide_eq_true ⟨h0, h1⟩, Bool.true_and]⟩
      cases x1 with
      | true =>
        go_enter Tryz.func31, Tryz.ntmps31
        go_wp2_with (go_at_call 11; refine (CK.out _ (Below.refl _ _)).mono ?_; rintro e w1 ⟨rfl, hb1⟩)
        go_ret
        exact ⟨ret_bool (by rw [← hX.out]; rfl), hb1⟩
      | false =>
        cases x2
        all_goals
          go_enter Tryz.func31, Tryz.ntmps31
          go_wp2_with (first | (go_at_call 11; refine (CK.out _ (Below.refl _ _)).mono ?_; rintro e w1 ⟨rfl, hb1⟩) | (go_at_call 28; refine (CG.out _ hb1).mono ?_; rintro e w2 ⟨rfl, hb2⟩))
          go_ret
          exact ⟨ret_bool (by rw [← hX.out]; rfl), hb1.trans (hb2.mono hb1.size)⟩
    · have hX : Kept (B = false) := ⟨by rw [← HB.out, decide_eq_false (fun h => h1 h.2)]; rfl⟩
      go_enter Tryz.func31, Tryz.ntmps31
      go_wp2
      go_ret
      exact ⟨ret_bool hX.out.symm, Below.refl _ _⟩
  · have hX : Kept (B = false) := ⟨by rw [← HB.out, decide_eq_false (fun h => h0 h.1)]; rfl⟩
    go_enter Tryz.func31, Tryz.ntmps31
    go_wp2
    go_ret
    exact ⟨ret_bool hX.out.symm, Below.refl _ _⟩
def endB (l : List Ptr.Nd) (a : Int) : Nat := if placeB l a = true then endN l a.toNat else 0
theorem place_in {l : List Ptr.Nd} {a : Int} (h : placeB l a = true) : ∃ i : Nat, a = i ∧ i < l.length := by
  unfold placeB at h
  rw [Bool.and_eq_true, decide_eq_true_eq] at h
  exact ⟨a.toNat, by omega, by omega⟩
end Go.Proofs.YtemfmidhekdekaaGreatDoor.Wtr
