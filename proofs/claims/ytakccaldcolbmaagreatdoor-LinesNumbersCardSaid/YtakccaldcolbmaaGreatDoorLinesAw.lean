/- The walks over is, refused and awake (chapter 31). -/
import Derived.Test.YtakccaldcolbmaaGreatDoorLinesSm
namespace Go.Proofs.YtakccaldcolbmaaGreatDoor.Wln
open Go Go.RowKit Go.Proofs.YtakccaldcolbmaaGreatDoor.Kb

theorem rdf_new (w : World) (ty : TypeId) (F : List (Int × Int)) : RdF (w.alloc (.cells (fatesC F).toArray ty)) (some ⟨w.heap.size, 0, none⟩) F := by
  intro i x hx
  obtain ⟨a, b⟩ := fatesC_at F i x hx
  refine ⟨w.heap.size, 0, rfl, ?_, ?_⟩
  · rw [Nat.zero_add, cell_of_row _ w.heap.size (i * 2) _ _ _ (World.alloc_heap_new w _)]
    simpa using a
  · rw [Nat.zero_add, cell_of_row _ w.heap.size (i * 2 + 1) _ _ _ (World.alloc_heap_new w _)]
    simpa using b
theorem rds_new (w : World) (ty : TypeId) (L : List (List UInt8)) : RdS (w.alloc (.cells (stC L).toArray ty)) (some ⟨w.heap.size, 0, none⟩) L := by
  intro i x hx
  refine ⟨w.heap.size, 0, rfl, ?_⟩
  rw [Nat.zero_add, cell_of_row _ w.heap.size i _ _ _ (World.alloc_heap_new w _)]
  simp [stC, hx]
theorem rdf_nil (w : World) (A : Option Addr) : RdF w A [] := fun i x hx => by cases hx
theorem lineR_some {s : ByteArray} {c : Pln.Cmd} (h : Pln.lineL s.data.toList = some c) (hs : s.size ≤ 65536) : lineR s.data.toList = some (some c) := by
  unfold lineR
  rw [if_neg (by rw [size_len]; omega), h]
theorem lineR_none {s : ByteArray} (h : Pln.lineL s.data.toList = none) (hs : s.size ≤ 65536) : lineR s.data.toList = some none := by
  unfold lineR
  rw [if_neg (by rw [size_len]; omega), h]
set_option maxRecDepth 100000 in
set_option maxHeartbeats 1000000 in
theorem is_any (s : ByteArray) (k : Nat) (t : List UInt8) (n : Int) (F : List (Int × Int)) (A : Option Addr) (m c : Nat) (w : World) (hE : LEnv w) (h : Pln.lineL s.data.toList = some (k, t, n, F)) (hs : s.size ≤ 65536) (hm : F.length = m) (hF : F.length ≤ 1000000) (hr : RdF w A F) :
    Calls Tryz.prog 14 #[.string s, cmdV k t n (.slice A m c)] w fun e w' => e = .returned (.bool true) ∧ Below w.heap.size w w' := by
  subst hm
  unfold cmdV
  have hb : Below w.heap.size w (w.alloc (.cells #[.int .u8 (k : Int), .string ⟨t.toArray⟩, .int .i64 n, .slice A F.length c] 40)) := (Below.refl _ _).alloc (Nat.le_refl _) _
  have hw0 : (w.alloc (.cells #[.int .u8 (k : Int), .string ⟨t.toArray⟩, .int .i64 n, .slice A F.length c] 40)).heap[w.heap.size]? = some (.cells #[.int .u8 (k : Int), .string ⟨t.toArray⟩, .int .i64 n, .slice A F.length c] 40) := World.alloc_heap_new w _
  have cC := Command_any s _ (hE.below hb) (by omega)
  rw [lineR_some h hs] at cC
  have CC := Kept.mk cC
  have HB := Kept.mk hb
  have HR := Kept.mk (hr.below hb)
  have H0 := Kept.mk hw0
  have HF := Kept.mk hF
  clear cC hb hr hw0 hE h hs hF
  go_enter Tryz.func14, Tryz.ntmps14
  go_wp2_with (first
    | (go_at_call 18; refine CC.out.mono ?_; rintro e w5 ⟨hb5, A5, c5, rfl, ho5⟩; have hz := (hb5.block w.heap.size (by simp)).trans H0.out; have r0 := cell_of_row _ w.heap.size 0 _ _ _ hz; have r1 := cell_of_row _ w.heap.size 1 _ _ _ hz; have r2 := cell_of_row _ w.heap.size 2 _ _ _ hz; have r3 := cell_of_row _ w.heap.size 3 _ _ _ hz; have l5 : w.heap.size < w5.heap.size := (Array.getElem?_eq_some_iff.1 hz).1; have H5 := Kept.mk (And.intro hb5 ho5); unfold cmdV; clear hb5 ho5 hz)
    | (go_at_call 28; refine (sameCommand_any k t n F A5 A c5 c _ ((rdf_own H5.out.2 rfl).below ((Below.refl _ _).alloc (Nat.le_refl _) _)) ((HR.out.below H5.out.1).below (((Below.refl _ _).alloc (Nat.le_refl _) _).mono (by simp))) HF.out).mono ?_; rintro e w6 ⟨rfl, hb6⟩; have H6 := Kept.mk hb6; clear hb6))
  go_ret
  exact ⟨rfl, HB.out.trans ((H5.out.1.trans (((Below.refl _ _).alloc (Nat.le_refl _) _).mono H5.out.1.size |>.trans (H6.out.mono (by have := H5.out.1.size; simp at this ⊢; omega)))).mono HB.out.size)⟩
set_option maxRecDepth 100000 in
set_option maxHeartbeats 1000000 in
theorem refused_any (s : ByteArray) (w : World) (hE : LEnv w) (h : Pln.lineL s.data.toList = none) (hs : s.size ≤ 65536) :
    Calls Tryz.prog 15 #[.string s] w fun e w' => e = .returned (.bool true) ∧ Below w.heap.size w w' := by
  have cC := Command_any s w hE (by omega)
  rw [lineR_none h hs] at cC
  have CC := Kept.mk cC
  clear cC hE h hs
  go_enter Tryz.func15, Tryz.ntmps15
  go_wp2_with (first
    | (go_at_call 18; refine CC.out.mono ?_; rintro e w5 ⟨hb5, rfl⟩; have H5 := Kept.mk hb5; unfold cmdV; clear hb5)
    | (go_at_call 28; refine (sameCommand_any 0 [] 0 [] none none 0 0 _ (rdf_nil _ _) (rdf_nil _ _) (by decide)).mono ?_; rintro e w6 ⟨rfl, hb6⟩; have H6 := Kept.mk hb6; clear hb6))
  go_ret
  exact ⟨rfl, H5.out.trans (((Below.refl _ _).alloc (Nat.le_refl _) _).mono H5.out.size |>.trans (H6.out.mono (by have := H5.out.size; simp; omega)))⟩
theorem line_crash : Pln.lineL [99, 114, 97, 115, 104, 32, 51, 32, 48, 58, 50, 53, 53, 32, 55, 58, 49] = some (6, [], 3, [(0, 255), (7, 1)]) := by decide +kernel
theorem line_load : Pln.lineL [32, 108, 111, 97, 100, 32, 34, 60, 97, 62, 92, 120, 52, 49, 92, 110, 60, 47, 97, 62, 34, 32] = some (1, [60, 97, 62, 65, 10, 60, 47, 97, 62], 0, []) := by decide +kernel
theorem line_bad : Pln.lineL [108, 111, 97, 100, 32, 97] = none := by decide +kernel
def its : List It := [(1, 2, [98], [60, 98, 47, 62], 0), (2, 0, [], [], 7), (4, 0, [], [], 1)]
def itsT : List (List UInt8) := [[101, 108, 101, 109, 101, 110, 116, 32, 34, 98, 34, 32, 34, 60, 98, 47, 62, 34], [105, 110, 116, 32, 55], [98, 111, 111, 108, 32, 116, 114, 117, 101]]
theorem its_show : its.map showL = itsT := by decide +kernel
def itC (x : It) : List Value := [.int .u8 (x.1 : Int), .int .u8 (x.2.1 : Int), .string ⟨x.2.2.1.toArray⟩, .string ⟨x.2.2.2.1.toArray⟩, .int .i64 x.2.2.2.2]
def itsC (l : List It) : List Value := l.flatMap itC
theorem itsC_at : ∀ (l : List It) (i : Nat) (x : It), l[i]? = some x → (itsC l)[i * 5]? = some (.int .u8 (x.1 : Int)) ∧ (itsC l)[i * 5 + 1]? = some (.int .u8 (x.2.1 : Int)) ∧ (itsC l)[i * 5 + 2]? = some (.string ⟨x.2.2.1.toArray⟩) ∧ (itsC l)[i * 5 + 3]? = some (.string ⟨x.2.2.2.1.toArray⟩) ∧ (itsC l)[i * 5 + 4]? = some (.int .i64 x.2.2.2.2)
  | [], i, x, h => by cases h
  | y :: l, 0, x, h => by
    simp only [List.getElem?_cons_zero, Option.some.injEq] at h
    subst h
    exact ⟨rfl, rfl, rfl, rfl, rfl⟩
  | y :: l, i + 1, x, h => by
    have := itsC_at l i x (by simpa using h)
    have e : itsC (y :: l) = itC y ++ itsC l := rfl
    have hl : (itC y).length = 5 := rfl
    have hs : ∀ j, (itC y ++ itsC l)[(i + 1) * 5 + j]? = (itsC l)[i * 5 + j]? := fun j => by
      rw [List.getElem?_append_right (by omega), hl]
      congr 1
      omega
    rw [e]
    have h0 := hs 0
    simp only [Nat.add_zero] at h0
    rw [h0, hs 1, hs 2, hs 3, hs 4]
    exact this
theorem rdi_new (w : World) (ty : TypeId) (l : List It) : RdI (w.alloc (.cells (itsC l).toArray ty)) (some ⟨w.heap.size, 0, none⟩) l := by
  intro i x hx
  obtain ⟨a, b, c, d, e⟩ := itsC_at l i x hx
  have h := fun j => cell_of_row _ w.heap.size j _ _ _ (World.alloc_heap_new w (.cells (itsC l).toArray ty))
  refine ⟨w.heap.size, 0, rfl, ?_, ?_, ?_, ?_, ?_⟩
  · rw [Nat.zero_add, h]; simpa using a
  · rw [Nat.zero_add, h]; simpa using b
  · rw [Nat.zero_add, h]; simpa using c
  · rw [Nat.zero_add, h]; simpa using d
  · rw [Nat.zero_add, h]; simpa using e
set_option maxRecDepth 100000 in
set_option maxHeartbeats 2000000 in
theorem awake_any (w : World) (hE : LEnv w) :
    Calls Tryz.prog 5 #[] w fun e w' => e = .returned (.bool true) ∧ Below w.heap.size w w' := by
  have hbI : Below w.heap.size w (w.alloc (.cells (itsC its).toArray 26)) := (Below.refl _ _).alloc (Nat.le_refl _) _
  have cS := Shown_any (some ⟨w.heap.size, 0, none⟩) 3 its _ (hE.below hbI) (rdi_new w 26 its) (by decide) (by unfold FitI; decide)
  rw [its_show] at cS
  have CS := Kept.mk cS
  have HI := Kept.mk hbI
  have HE := Kept.mk hE
  have FST := Kept.mk trivial
  clear cS hbI hE
  go_enter Tryz.func5, Tryz.ntmps5
  go_wp2_with (first
    | (go_at_call 7; refine CS.out.mono ?_; rintro e w1 ⟨v, rfl, ho1, hb1⟩; obtain ⟨A1, c1, rfl, _⟩ := own_shapeS ho1; have H1 := Kept.mk (HI.out.trans (hb1.mono HI.out.size)); have O1 := Kept.mk (rds_own ho1 rfl); clear hb1 ho1)
    | (go_at_call 14; clear FST; have hbF : Below w1.heap.size w1 (w1.alloc (.cells (fatesC [(0, 255), (7, 1)]).toArray 42)) := (Below.refl _ _).alloc (Nat.le_refl _) _; refine (is_any ⟨#[99, 114, 97, 115, 104, 32, 51, 32, 48, 58, 50, 53, 53, 32, 55, 58, 49]⟩ 6 [] 3 [(0, 255), (7, 1)] (some ⟨w1.heap.size, 0, none⟩) 2 2 _ ((HE.out.below H1.out).below hbF) line_crash (by decide) rfl (by decide) (rdf_new w1 42 [(0, 255), (7, 1)])).mono ?_; rintro e w2 ⟨rfl, hb2⟩; have H2 := Kept.mk (hbF.trans (hb2.mono hbF.size)); clear hb2 hbF)
    | (go_at_call 14; refine (is_any ⟨#[32, 108, 111, 97, 100, 32, 34, 60, 97, 62, 92, 120, 52, 49, 92, 110, 60, 47, 97, 62, 34, 32]⟩ 1 [60, 97, 62, 65, 10, 60, 47, 97, 62] 0 [] none 0 0 _ (((HE.out.below H1.out).below H2.out)) line_load (by decide) rfl (by decide) (rdf_nil _ _)).mono ?_; rintro e w3 ⟨rfl, hb3⟩; have H3 := Kept.mk (H2.out.trans (hb3.mono H2.out.size)); clear hb3)
    | (go_at_call 15; refine (refused_any ⟨#[108, 111, 97, 100, 32, 97]⟩ _ ((HE.out.below H1.out).below H3.out) line_bad (by decide)).mono ?_; rintro e w4 ⟨rfl, hb4⟩; have H4 := Kept.mk (H3.out.trans (hb4.mono H3.out.size)); clear hb4)
    | (go_at_call 10; refine (sameTexts_any itsT A1 (some ⟨w4.heap.size, 0, none⟩) c1 3 _ ((O1.out.below H4.out).below ((Below.refl _ _).alloc (Nat.le_refl _) _)) (rds_new w4 9 itsT) (by decide)).mono ?_; rintro e w5 ⟨rfl, hb5⟩; have H5 := Kept.mk hb5; clear hb5))
  go_ret
  exact ⟨rfl, H1.out.trans ((H4.out.trans (((Below.refl _ _).alloc (Nat.le_refl _) _).mono H4.out.size |>.trans (H5.out.mono (by have := H4.out.size; simp; omega)))).mono H1.out.size)⟩
end Go.Proofs.YtakccaldcolbmaaGreatDoor.Wln
