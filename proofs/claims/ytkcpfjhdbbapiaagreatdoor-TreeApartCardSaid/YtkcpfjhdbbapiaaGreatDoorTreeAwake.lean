/- The walk over awake of chapter 06's statements. -/
import Derived.Test.YtkcpfjhdbbapiaaGreatDoorTreeGoC
namespace Go.Proofs.YtkcpfjhdbbapiaaGreatDoor.Wtr
open Go Go.RowKit Go.Proofs.YtkcpfjhdbbapiaaGreatDoor.Kb Go.Proofs.YtkcpfjhdbbapiaaGreatDoor.Flt

theorem own_lower {w : World} {base base' n k : Nat} {e : TypeId} {v : Value} {xs : List Value} (h : w.ownsRow base e k v n xs) (hb : base' ≤ base) : w.ownsRow base' e k v n xs := by
  refine ⟨h.1, ?_⟩
  rcases h.2 with h0 | ⟨g, cap, cur, hv, h1, hh⟩
  · exact .inl h0
  · exact .inr ⟨g, cap, cur, hv, Nat.le_trans hb h1, hh⟩
set_option maxRecDepth 100000 in
set_option maxHeartbeats 4000000 in
theorem following_any (A : Option Addr) (l : List Ptr.Nd) (c i : Nat) (w : World) (hr : RdN w A l) (hl : l.length ≤ 100000) (hf : FitP l) (hE : TEnv w) (hi : i < l.length) (hp : placeB l i = true) :
    Calls Tryz.prog 9 #[.slice A l.length c, .int .i64 i, .int .u8 7] w fun e w' => ∃ v, e = .returned v ∧ w'.ownsRow w.heap.size 3 1 v (stretchL l (endN l i) l.length).length (ic (stretchL l (endN l i) l.length)) ∧ Below w.heap.size w w' := by
  have cP := fun wx (hx : Below w.heap.size w wx) => place_any A l c i wx (hr.below hx) hl hf (hE.below hx)
  rw [hp] at cP
  have cN := fun wx hx => end_any A l c i wx hx hi hl
  obtain ⟨hn1, hn2⟩ := endN_le l i hi
  have cS := fun wx hx => stretch_any A l c (endN l i) l.length wx hx hn2 (Nat.le_refl _) hl
  generalize endN l i = N at cN cS hn1 hn2 ⊢
  have HR := Kept.mk hr
  have CP := Kept.mk cP
  have CN := Kept.mk cN
  have CS := Kept.mk cS
  have hb0 : Below w.heap.size w ((w.alloc (.cells #[.slice A l.length c] 22)).alloc (.cells #[.int .i64 i] 3)) := ((Below.refl _ _).alloc (Nat.le_refl _) _).alloc (by simp) _
  have HB0 := Kept.mk hb0
  have s0 : ((w.alloc (.cells #[.slice A l.length c] 22)).alloc (.cells #[.int .i64 i] 3)).cell? ⟨w.heap.size, 0, none⟩ = some (.slice A l.length c) := cell_keep ((Below.refl _ _).alloc (Nat.le_refl _) _) (by rw [World.cell?_alloc_new]; rfl)
  have s1 : ((w.alloc (.cells #[.slice A l.length c] 22)).alloc (.cells #[.int .i64 i] 3)).cell? ⟨w.heap.size + 1, 0, none⟩ = some (.int .i64 i) := by
    have := World.cell?_alloc_new (w.alloc (.cells #[.slice A l.length c] 22)) #[.int .i64 i] 3 0
    rw [World.size_alloc] at this
    exact this
  have HS0 := Kept.mk s0; have HS1 := Kept.mk s1
  clear hr hf hE hp cP cN cS hb0 s0 s1
  go_enter Tryz.func9, Tryz.ntmps9
  go_wp2_with (first | (go_at_call 32; refine (CP.out _ HB0.out).mono ?_; rintro e w1 ⟨rfl, hb1⟩; have c0 := cell_keep hb1 HS0.out; have c1 := cell_keep hb1 HS1.out; have HB1 := Kept.mk (HB0.out.trans (hb1.mono HB0.out.size)); clear hb1) | (go_at_call 33; refine (CN.out _ (HR.out.below HB1.out)).mono ?_; rintro e w2 ⟨rfl, rfl⟩) | (go_at_call 38; refine (CS.out _ (HR.out.below HB1.out)).mono ?_; rintro e w3 ⟨v, rfl, hO, hb3⟩))
  go_ret
  exact ⟨_, rfl, own_lower hO HB1.out.size, HB1.out.trans (hb3.mono HB1.out.size)⟩
def L6 : List Ptr.Nd := [(1, [], [], -1), (2, [97], [], 0), (3, [120], [49], 1), (4, [], [116], 1), (2, [98], [], 1), (4, [], [117], 4)]
theorem small_any (w : World) : Calls Tryz.prog 29 #[] w fun e w' => e = .returned (.slice (some ⟨w.heap.size, 0, none⟩) 6 6) ∧ RdN w' (some ⟨w.heap.size, 0, none⟩) L6 ∧ Below w.heap.size w w' := by
  have hL := rdn_lit w L6 47
  have HL := Kept.mk hL
  clear hL
  go_enter Tryz.func29, Tryz.ntmps29
  go_wp2
  go_ret
  exact ⟨rfl, HL.out, box_below _ _⟩
theorem fit6 : FitP L6 := fun i => by
  match i with
  | 0 | 1 | 2 | 3 | 4 | 5 => exact ⟨by decide, by decide, by decide⟩
  | i + 6 => exact ⟨by simp [Ptr.nam, L6, Ptr.nd0], by simp [Ptr.val, L6, Ptr.nd0], by simp [Ptr.kin, L6, Ptr.nd0]⟩
theorem chk6 : Ptr.chk L6 true = 0 := by kernel_rfl
theorem place6 (i : Nat) (h : i < 6) : placeB L6 i = true := by
  unfold placeB
  rw [chk6, decide_eq_true ⟨by omega, by show (i : Int) < 6; omega⟩]
  rfl
theorem text6 : textN L6 1 = [116, 117] := by kernel_rfl
theorem follow6 : stretchL L6 (endN L6 2) 6 = [3, 4, 5] := by kernel_rfl
theorem end6 : endB L6 4 = 6 := by
  unfold endB
  rw [if_pos (show placeB L6 4 = true from place6 4 (by omega))]
  kernel_rfl
set_option maxRecDepth 100000 in
set_option maxHeartbeats 4000000 in
theorem awake_any (w : World) (hE : TEnv w) : Calls Tryz.prog 6 #[] w fun e w' => e = .returned (.bool true) ∧ Below w.heap.size w w' := by
  have HE := Kept.mk hE
  clear hE
  have cS := small_any w
  have cF := fun wx hx hy => following_any (some ⟨w.heap.size, 0, none⟩) L6 6 2 wx hx (by decide) fit6 hy (by decide) (place6 2 (by omega))
  have cC := fun wx hx hy => check_any (some ⟨w.heap.size, 0, none⟩) L6 6 wx hx (by decide) fit6 hy
  have cT := fun wx hx hy => Text_any (some ⟨w.heap.size, 0, none⟩) L6 6 1 wx hx (by decide) fit6 hy (by decide) (by decide) (place6 1 (by omega))
  have cE := fun wx hx hy => End_any (some ⟨w.heap.size, 0, none⟩) L6 6 4 wx hx (by decide) fit6 hy
  rw [chk6] at cC
  rw [text6] at cT
  rw [end6] at cE
  rw [show L6.length = 6 from rfl] at cF cC cT cE
  rw [follow6] at cF
  have CF := Kept.mk cF; have CC := Kept.mk cC; have CT := Kept.mk cT; have CE := Kept.mk cE
  clear cF cC cT cE
  go_enter Tryz.func6, Tryz.ntmps6
  go_wp2_with (first | (go_at_call 29; refine cS.mono ?_; rintro e w1 ⟨rfl, hr1, hb1⟩; have R1 := Kept.mk hr1; have B1 := Kept.mk hb1; clear hr1 hb1) | (go_at_call 9; refine (CF.out _ R1.out (HE.out.below B1.out)).mono ?_; rintro e w2 ⟨v, rfl, hO, hb2⟩; obtain ⟨g, c, rfl, hg1, hg2, hg3⟩ := own_block hO (by decide); have o0 := own_at hO 0 (.int .i64 3) rfl; have B2 := Kept.mk (B1.out.trans (hb2.mono B1.out.size)); have R2 := Kept.mk (R1.out.below hb2); have O2 := Kept.mk o0; clear hb2 hO o0) | (go_at_call 30; refine (CC.out _ R2.out (HE.out.below B2.out)).mono ?_; rintro e w3 ⟨rfl, hb3⟩; have B3 := Kept.mk (B2.out.trans (hb3.mono B2.out.size)); have R3 := Kept.mk (R2.out.below hb3); have O3 := Kept.mk (cell_keep hb3 O2.out); clear hb3) | (go_at_call 23; refine (CT.out _ R3.out (HE.out.below B3.out)).mono ?_; rintro e w4 ⟨rfl, hb4⟩; have B4 := Kept.mk (B3.out.trans (hb4.mono B3.out.size)); have R4 := Kept.mk (R3.out.below hb4); have o4 := cell_keep hb4 O3.out; clear hb4) | (go_at_call 21; refine (CE.out _ R4.out (HE.out.below B4.out)).mono ?_; rintro e w5 ⟨rfl, hb5⟩; have B5 := Kept.mk (B4.out.trans (hb5.mono B4.out.size)); clear hb5))
  go_ret
  exact ⟨rfl, B5.out⟩
end Go.Proofs.YtkcpfjhdbbapiaaGreatDoor.Wtr
