/- The program's parser: what is told of a text. -/
import Derived.Test.YtlemdhfekdiaeaaGreatDoorParseAD
namespace Go.Proofs.YtlemdhfekdiaeaaGreatDoor.Wps
open Go Go.RowKit Go.Proofs.YtlemdhfekdiaeaaGreatDoor.Kb Go.Proofs.YtlemdhfekdiaeaaGreatDoor.Wch Go.Proofs.YtlemdhfekdiaeaaGreatDoor.Emk

/-- what is told -/
def Told (B : Nat) (w : World) (m : List Ptr.Nd × Int × Int) (e : Ending) (w' : World) : Prop :=
  Below B w w' ∧ ∃ A c, e = .returned (.tuple #[.slice A m.1.length c, .agg #[.int .i64 m.2.1, .int .i64 m.2.2]]) ∧ w'.ownsRow B 35 4 (.slice A m.1.length c) m.1.length (Wtr.ndsC m.1)
theorem told_none {B : Nat} {w w' : World} {e : Ending} {x y : Int} (hb : Below B w w') (he : e = .returned (.tuple #[.slice none 0 0, .agg #[.int .i64 x, .int .i64 y]])) : Told B w ([], x, y) e w' := ⟨hb, none, 0, he, World.ownsRow_nil _ _ _ _⟩
/-- the fault's own variable -/
structure Fv (g : Nat) (x y : Int) (w : World) : Prop where
  blk : w.heap[g]? = some (.cells #[.int .i64 x, .int .i64 y] 26 (0, 0))
section
variable {g : Nat} {x y : Int} {w w' : World}
theorem Fv.c0 (h : Fv g x y w) : w.cell? ⟨g, 0, none⟩ = some (.int .i64 x) := by rw [cell_of_row w g _ _ _ _ h.blk]; rfl
theorem Fv.c1 (h : Fv g x y w) : w.cell? ⟨g, 1, none⟩ = some (.int .i64 y) := by rw [cell_of_row w g _ _ _ _ h.blk]; rfl
theorem Fv.unf (h : Fv g x y w) (i : Nat) : w.frozen? ⟨g, i, none⟩ = false := Joins.unfrozen_of_block h.blk _
theorem Fv.new (w : World) : Fv w.heap.size 0 0 (w.alloc (.cells #[.int .i64 0, .int .i64 0] 26)) := ⟨heap_alloc_new _ _⟩
theorem Fv.lt (h : Fv g x y w) : g < w.heap.size := (Array.getElem?_eq_some_iff.1 h.blk).1
theorem Fv.below (h : Fv g x y w) (hb : Below w.heap.size w w') : Fv g x y w' := ⟨(hb.block g h.lt).trans h.blk⟩
theorem Fv.bel {B b : Nat} (h : Fv g x y w) (hb : Bel B b w w') (hne : g ≠ b) : Fv g x y w' := ⟨hb.far g _ _ hne (by decide) (by decide) h.blk⟩
theorem Fv.nds {B n : Nat} {v : Value} {xs : List Value} (h : Fv g x y w) (ho : w.ownsRow B 35 4 v n xs) (u1 u2 : Value) : ((w.setCell ⟨g, 0, none⟩ u1).setCell ⟨g, 1, none⟩ u2).ownsRow B 35 4 v n xs := by
  have hne := nodes_ne h.blk (by decide) ho
  exact Flt.own_other (Flt.own_other ho hne) hne
end
set_option maxRecDepth 100000 in
set_option maxHeartbeats 2000000 in
theorem all_wrong_doc {B b : Nat} {s : ByteArray} {w : World} (h : Ps B b s Ppa.st0 s.data.toList w) {k : Nat} (hw : Ppa.wrongL s.data.toList = some k) :
    Calls Tryz.prog 19 #[.pointer (some ⟨b, 0, none⟩), .func (.func 20) #[.pointer (some ⟨b, 0, none⟩)] #[]] w fun e w' => Told B w ([], 120, (k : Int)) e w' := by
  have hb1 : Below w.heap.size w (w.alloc (.cells #[.int .i64 0, .int .i64 0] 26)) := (Below.refl _ _).alloc (Nat.le_refl _) _
  have H1 := h.below hb1
  have V1 := Fv.new w
  have B1 := Kept.mk (hb1.mono h.hB)
  have hgb : w.heap.size ≠ b := by have := h.lt; omega
  have hBg := h.hB
  have hsm := h.small
  have c0 := H1.c0
  have i0 : ¬ (65536 : Int) < (s.size : Int) := by omega
  have KW : Kept (wrongI s.data.toList = (k : Int)) := ⟨by unfold wrongI; rw [hw]⟩
  have i1 : (0 : Int) ≤ (k : Int) := by omega
  clear hw
  clear hb1 h
  go_enter Tryz.func19, Tryz.ntmps19
  go_wp2_with (go_at_call 33; refine (wrong_any s _ H1.ev.ev hsm).mono ?_; rintro e w2 ⟨rfl, hb2⟩; rw [KW.out]; have H2 := H1.below hb2; have V2 := V1.below hb2; have B2 := Kept.mk (B1.out.trans (hb2.mono H1.hB)); clear hb2; have v0 := V2.c0; have v1 := V2.c1; have z0 := V2.unf 0; have z1 := V2.unf 1)
  refine bodyPost_ret (v := .tuple #[.slice none 0 0, .agg #[.int .i64 120, .int .i64 (k : Int)]]) (by simp [results, Tryz.results19, go_sem, *]) rfl ?_
  exact told_none ((B2.out.setCell (p := ⟨w.heap.size, 0, none⟩) hBg _).setCell (p := ⟨w.heap.size, 1, none⟩) hBg _) rfl
set_option maxRecDepth 100000 in
set_option maxHeartbeats 2000000 in
theorem all_err_doc {B b F : Nat} {s : ByteArray} {w : World} (h : Ps B b s Ppa.st0 s.data.toList w) (ht : Pch.textsL s.data.toList = true) (hw : Ppa.wrongL s.data.toList = none) {r1 : Ppa.Bs} (he : Ppa.docM s.size F s.data.toList = some (.error r1)) :
    Calls Tryz.prog 19 #[.pointer (some ⟨b, 0, none⟩), .func (.func 20) #[.pointer (some ⟨b, 0, none⟩)] #[]] w fun e w' => Told B w ([], 130, (s.size : Int) - r1.length) e w' := by
  have hb1 : Below w.heap.size w (w.alloc (.cells #[.int .i64 0, .int .i64 0] 26)) := (Below.refl _ _).alloc (Nat.le_refl _) _
  have H1 := h.below hb1
  have V1 := Fv.new w
  have B1 := Kept.mk (hb1.mono h.hB)
  have hgb : w.heap.size ≠ b := by have := h.lt; omega
  have hBg := h.hB
  have hsm := h.small
  have c0 := H1.c0
  have i0 : ¬ (65536 : Int) < (s.size : Int) := by omega
  have KW : Kept (wrongI s.data.toList = -1) := ⟨by unfold wrongI; rw [hw]⟩
  have KE := Kept.mk he
  clear hw he
  clear hb1 h
  go_enter Tryz.func19, Tryz.ntmps19
  go_wp2_with (first | (go_at_call 33; refine (wrong_any s _ H1.ev.ev hsm).mono ?_; rintro e w2 ⟨rfl, hb2⟩; rw [KW.out]; have H2 := H1.below hb2; have V2 := V1.below hb2; have B2 := Kept.mk (B1.out.trans (hb2.mono H1.hB)); clear hb2) | (go_at_call 34; refine (try_doc H2 ht KE.out).mono ?_; rintro e w3 ⟨hb3, rfl, hl3⟩; have V3 := V2.bel hb3 hgb; have B3 := Kept.mk (B2.out.trans hb3.lo); clear hb3; rw [show ((s.size - r1.length : Nat) : Int) = (s.size : Int) - r1.length by omega]; have v0 := V3.c0; have v1 := V3.c1; have z0 := V3.unf 0; have z1 := V3.unf 1; have i1 : (0 : Int) ≤ (s.size : Int) - r1.length := (by omega)))
  refine bodyPost_ret (v := .tuple #[.slice none 0 0, .agg #[.int .i64 130, .int .i64 ((s.size : Int) - r1.length)]]) (by simp [results, Tryz.results19, go_sem, *]) rfl ?_
  exact told_none ((B3.out.setCell (p := ⟨w.heap.size, 0, none⟩) hBg _).setCell (p := ⟨w.heap.size, 1, none⟩) hBg _) rfl
set_option maxRecDepth 100000 in
set_option maxHeartbeats 2000000 in
theorem all_twice_doc {B b F : Nat} {s : ByteArray} {w : World} (h : Ps B b s Ppa.st0 s.data.toList w) (ht : Pch.textsL s.data.toList = true) (hw : Ppa.wrongL s.data.toList = none) {st : Ppa.St} (he : Ppa.docM s.size F s.data.toList = some (.ok st)) (h2 : 0 ≤ st.twice) :
    Calls Tryz.prog 19 #[.pointer (some ⟨b, 0, none⟩), .func (.func 20) #[.pointer (some ⟨b, 0, none⟩)] #[]] w fun e w' => Told B w ([], 282, st.twice) e w' := by
  have hb1 : Below w.heap.size w (w.alloc (.cells #[.int .i64 0, .int .i64 0] 26)) := (Below.refl _ _).alloc (Nat.le_refl _) _
  have H1 := h.below hb1
  have V1 := Fv.new w
  have B1 := Kept.mk (hb1.mono h.hB)
  have hgb : w.heap.size ≠ b := by have := h.lt; omega
  have hBg := h.hB
  have hsm := h.small
  have c0 := H1.c0
  have i0 : ¬ (65536 : Int) < (s.size : Int) := by omega
  have KW : Kept (wrongI s.data.toList = -1) := ⟨by unfold wrongI; rw [hw]⟩
  have KE := Kept.mk he
  clear hw he
  clear hb1 h
  go_enter Tryz.func19, Tryz.ntmps19
  go_wp2_with (first | (go_at_call 33; refine (wrong_any s _ H1.ev.ev hsm).mono ?_; rintro e w2 ⟨rfl, hb2⟩; rw [KW.out]; have H2 := H1.below hb2; have V2 := V1.below hb2; have B2 := Kept.mk (B1.out.trans (hb2.mono H1.hB)); clear hb2) | (go_at_call 34; refine (try_doc H2 ht KE.out).mono ?_; rintro e w3 ⟨hb3, rfl, r3, H3⟩; have V3 := V2.bel hb3 hgb; have B3 := Kept.mk (B2.out.trans hb3.lo); clear hb3; have v0 := V3.c0; have v1 := V3.c1; have z0 := V3.unf 0; have z1 := V3.unf 1; have c5 := H3.c5))
  have V4 : Fv w.heap.size 0 0 w3.drew := ⟨V3.blk⟩
  have e0 := V4.c0
  have e1 := V4.c1
  have e5 : w3.drew.cell? ⟨b, 5, none⟩ = some (.int .i64 st.twice) := c5
  have y0 := V4.unf 0
  have y1 := V4.unf 1
  go_region
  all_goals
    go_wp2
    refine bodyPost_ret (v := .tuple #[.slice none 0 0, .agg #[.int .i64 282, .int .i64 st.twice]]) (by simp [results, Tryz.results19, go_sem, *]) rfl ?_
    exact told_none ((B3.out.drew.setCell (p := ⟨w.heap.size, 0, none⟩) hBg _).setCell (p := ⟨w.heap.size, 1, none⟩) hBg _) rfl
set_option maxRecDepth 100000 in
set_option maxHeartbeats 2000000 in
theorem all_deep_doc {B b F : Nat} {s : ByteArray} {w : World} (h : Ps B b s Ppa.st0 s.data.toList w) (ht : Pch.textsL s.data.toList = true) (hw : Ppa.wrongL s.data.toList = none) {st : Ppa.St} (he : Ppa.docM s.size F s.data.toList = some (.ok st)) (h2 : ¬ 0 ≤ st.twice) (h3 : 0 ≤ st.deep) :
    Calls Tryz.prog 19 #[.pointer (some ⟨b, 0, none⟩), .func (.func 20) #[.pointer (some ⟨b, 0, none⟩)] #[]] w fun e w' => Told B w ([], 131, st.deep) e w' := by
  have hb1 : Below w.heap.size w (w.alloc (.cells #[.int .i64 0, .int .i64 0] 26)) := (Below.refl _ _).alloc (Nat.le_refl _) _
  have H1 := h.below hb1
  have V1 := Fv.new w
  have B1 := Kept.mk (hb1.mono h.hB)
  have hgb : w.heap.size ≠ b := by have := h.lt; omega
  have hBg := h.hB
  have hsm := h.small
  have c0 := H1.c0
  have i0 : ¬ (65536 : Int) < (s.size : Int) := by omega
  have KW : Kept (wrongI s.data.toList = -1) := ⟨by unfold wrongI; rw [hw]⟩
  have KE := Kept.mk he
  clear hw he
  clear hb1 h
  go_enter Tryz.func19, Tryz.ntmps19
  go_wp2_with (first | (go_at_call 33; refine (wrong_any s _ H1.ev.ev hsm).mono ?_; rintro e w2 ⟨rfl, hb2⟩; rw [KW.out]; have H2 := H1.below hb2; have V2 := V1.below hb2; have B2 := Kept.mk (B1.out.trans (hb2.mono H1.hB)); clear hb2) | (go_at_call 34; refine (try_doc H2 ht KE.out).mono ?_; rintro e w3 ⟨hb3, rfl, r3, H3⟩; have V3 := V2.bel hb3 hgb; have B3 := Kept.mk (B2.out.trans hb3.lo); clear hb3; have v0 := V3.c0; have v1 := V3.c1; have z0 := V3.unf 0; have z1 := V3.unf 1; have c5 := H3.c5; have c6 := H3.c6))
  have V4 : Fv w.heap.size 0 0 w3.drew := ⟨V3.blk⟩
  have e0 := V4.c0
  have e1 := V4.c1
  have e6 : w3.drew.cell? ⟨b, 6, none⟩ = some (.int .i64 st.deep) := c6
  have y0 := V4.unf 0
  have y1 := V4.unf 1
  go_region
  all_goals
    go_wp2
    refine bodyPost_ret (v := .tuple #[.slice none 0 0, .agg #[.int .i64 131, .int .i64 st.deep]]) (by simp [results, Tryz.results19, go_sem, *]) rfl ?_
    exact told_none ((B3.out.drew.setCell (p := ⟨w.heap.size, 0, none⟩) hBg _).setCell (p := ⟨w.heap.size, 1, none⟩) hBg _) rfl
set_option maxRecDepth 100000 in
set_option maxHeartbeats 2000000 in
theorem all_many_doc {B b F : Nat} {s : ByteArray} {w : World} (h : Ps B b s Ppa.st0 s.data.toList w) (ht : Pch.textsL s.data.toList = true) (hw : Ppa.wrongL s.data.toList = none) {st : Ppa.St} (he : Ppa.docM s.size F s.data.toList = some (.ok st)) (h2 : ¬ 0 ≤ st.twice) (h3 : ¬ 0 ≤ st.deep) (h4 : 16384 < st.nodes.length) :
    Calls Tryz.prog 19 #[.pointer (some ⟨b, 0, none⟩), .func (.func 20) #[.pointer (some ⟨b, 0, none⟩)] #[]] w fun e w' => Told B w ([], 3, 0) e w' := by
  have hb1 : Below w.heap.size w (w.alloc (.cells #[.int .i64 0, .int .i64 0] 26)) := (Below.refl _ _).alloc (Nat.le_refl _) _
  have H1 := h.below hb1
  have V1 := Fv.new w
  have B1 := Kept.mk (hb1.mono h.hB)
  have hgb : w.heap.size ≠ b := by have := h.lt; omega
  have hBg := h.hB
  have hsm := h.small
  have c0 := H1.c0
  have i0 : ¬ (65536 : Int) < (s.size : Int) := by omega
  have KW : Kept (wrongI s.data.toList = -1) := ⟨by unfold wrongI; rw [hw]⟩
  have KE := Kept.mk he
  clear hw he
  have i4 : (16384 : Int) < (st.nodes.length : Int) := by omega
  clear hb1 h
  go_enter Tryz.func19, Tryz.ntmps19
  go_wp2_with (first | (go_at_call 33; refine (wrong_any s _ H1.ev.ev hsm).mono ?_; rintro e w2 ⟨rfl, hb2⟩; rw [KW.out]; have H2 := H1.below hb2; have V2 := V1.below hb2; have B2 := Kept.mk (B1.out.trans (hb2.mono H1.hB)); clear hb2) | (go_at_call 34; refine (try_doc H2 ht KE.out).mono ?_; rintro e w3 ⟨hb3, rfl, r3, H3⟩; have V3 := V2.bel hb3 hgb; have B3 := Kept.mk (B2.out.trans hb3.lo); clear hb3; have v0 := V3.c0; have v1 := V3.c1; have z0 := V3.unf 0; have z1 := V3.unf 1; have c5 := H3.c5; have c6 := H3.c6; obtain ⟨A, c, p, v, X⟩ := H3.px; have c2 := X.c2; have HN := Kept.mk X.nds; clear X))
  refine bodyPost_ret (v := .tuple #[.slice none 0 0, .agg #[.int .i64 3, .int .i64 0]]) (by simp [results, Tryz.results19, go_sem, *]) rfl ?_
  exact told_none ((B3.out.setCell (p := ⟨w.heap.size, 0, none⟩) hBg _).setCell (p := ⟨w.heap.size, 1, none⟩) hBg _) rfl
set_option maxRecDepth 100000 in
set_option maxHeartbeats 2000000 in
theorem all_ok_doc {B b F : Nat} {s : ByteArray} {w : World} (h : Ps B b s Ppa.st0 s.data.toList w) (ht : Pch.textsL s.data.toList = true) (hw : Ppa.wrongL s.data.toList = none) {st : Ppa.St} (he : Ppa.docM s.size F s.data.toList = some (.ok st)) (h2 : ¬ 0 ≤ st.twice) (h3 : ¬ 0 ≤ st.deep) (h4 : ¬ 16384 < st.nodes.length) :
    Calls Tryz.prog 19 #[.pointer (some ⟨b, 0, none⟩), .func (.func 20) #[.pointer (some ⟨b, 0, none⟩)] #[]] w fun e w' => Told B w (st.nodes, 0, 0) e w' := by
  have hb1 : Below w.heap.size w (w.alloc (.cells #[.int .i64 0, .int .i64 0] 26)) := (Below.refl _ _).alloc (Nat.le_refl _) _
  have H1 := h.below hb1
  have V1 := Fv.new w
  have B1 := Kept.mk (hb1.mono h.hB)
  have hgb : w.heap.size ≠ b := by have := h.lt; omega
  have hBg := h.hB
  have hsm := h.small
  have c0 := H1.c0
  have i0 : ¬ (65536 : Int) < (s.size : Int) := by omega
  have KW : Kept (wrongI s.data.toList = -1) := ⟨by unfold wrongI; rw [hw]⟩
  have KE := Kept.mk he
  clear hw he
  have i4 : ¬ (16384 : Int) < (st.nodes.length : Int) := by omega
  clear hb1 h
  go_enter Tryz.func19, Tryz.ntmps19
  go_wp2_with (first | (go_at_call 33; refine (wrong_any s _ H1.ev.ev hsm).mono ?_; rintro e w2 ⟨rfl, hb2⟩; rw [KW.out]; have H2 := H1.below hb2; have V2 := V1.below hb2; have B2 := Kept.mk (B1.out.trans (hb2.mono H1.hB)); clear hb2) | (go_at_call 34; refine (try_doc H2 ht KE.out).mono ?_; rintro e w3 ⟨hb3, rfl, r3, H3⟩; have V3 := V2.bel hb3 hgb; have B3 := Kept.mk (B2.out.trans hb3.lo); clear hb3; have v0 := V3.c0; have v1 := V3.c1; have z0 := V3.unf 0; have z1 := V3.unf 1; have c5 := H3.c5; have c6 := H3.c6; obtain ⟨A, c, p, v, X⟩ := H3.px; have c2 := X.c2; have HN := Kept.mk X.nds; clear X))
  refine bodyPost_ret (v := .tuple #[.slice A st.nodes.length c, .agg #[.int .i64 0, .int .i64 0]]) (by simp [results, Tryz.results19, go_sem, *]) rfl ?_
  exact ⟨((B3.out.setCell (p := ⟨w.heap.size, 0, none⟩) hBg _).setCell (p := ⟨w.heap.size, 1, none⟩) hBg _), A, c, rfl, V3.nds HN.out _ _⟩
set_option maxRecDepth 100000 in
set_option maxHeartbeats 2000000 in
theorem all_wrong_frag {B b : Nat} {s : ByteArray} {w : World} (h : Ps B b s Ppa.st0 s.data.toList w) {k : Nat} (hw : Ppa.wrongL s.data.toList = some k) :
    Calls Tryz.prog 19 #[.pointer (some ⟨b, 0, none⟩), .func (.func 24) #[.pointer (some ⟨b, 0, none⟩)] #[]] w fun e w' => Told B w ([], 120, (k : Int)) e w' := by
  have hb1 : Below w.heap.size w (w.alloc (.cells #[.int .i64 0, .int .i64 0] 26)) := (Below.refl _ _).alloc (Nat.le_refl _) _
  have H1 := h.below hb1
  have V1 := Fv.new w
  have B1 := Kept.mk (hb1.mono h.hB)
  have hgb : w.heap.size ≠ b := by have := h.lt; omega
  have hBg := h.hB
  have hsm := h.small
  have c0 := H1.c0
  have i0 : ¬ (65536 : Int) < (s.size : Int) := by omega
  have KW : Kept (wrongI s.data.toList = (k : Int)) := ⟨by unfold wrongI; rw [hw]⟩
  have i1 : (0 : Int) ≤ (k : Int) := by omega
  clear hw
  clear hb1 h
  go_enter Tryz.func19, Tryz.ntmps19
  go_wp2_with (go_at_call 33; refine (wrong_any s _ H1.ev.ev hsm).mono ?_; rintro e w2 ⟨rfl, hb2⟩; rw [KW.out]; have H2 := H1.below hb2; have V2 := V1.below hb2; have B2 := Kept.mk (B1.out.trans (hb2.mono H1.hB)); clear hb2; have v0 := V2.c0; have v1 := V2.c1; have z0 := V2.unf 0; have z1 := V2.unf 1)
  refine bodyPost_ret (v := .tuple #[.slice none 0 0, .agg #[.int .i64 120, .int .i64 (k : Int)]]) (by simp [results, Tryz.results19, go_sem, *]) rfl ?_
  exact told_none ((B2.out.setCell (p := ⟨w.heap.size, 0, none⟩) hBg _).setCell (p := ⟨w.heap.size, 1, none⟩) hBg _) rfl
set_option maxRecDepth 100000 in
set_option maxHeartbeats 2000000 in
theorem all_err_frag {B b F : Nat} {s : ByteArray} {w : World} (h : Ps B b s Ppa.st0 s.data.toList w) (ht : Pch.textsL s.data.toList = true) (hw : Ppa.wrongL s.data.toList = none) {r1 : Ppa.Bs} (he : Ppa.fragM s.size F s.data.toList = some (.error r1)) :
    Calls Tryz.prog 19 #[.pointer (some ⟨b, 0, none⟩), .func (.func 24) #[.pointer (some ⟨b, 0, none⟩)] #[]] w fun e w' => Told B w ([], 130, (s.size : Int) - r1.length) e w' := by
  have hb1 : Below w.heap.size w (w.alloc (.cells #[.int .i64 0, .int .i64 0] 26)) := (Below.refl _ _).alloc (Nat.le_refl _) _
  have H1 := h.below hb1
  have V1 := Fv.new w
  have B1 := Kept.mk (hb1.mono h.hB)
  have hgb : w.heap.size ≠ b := by have := h.lt; omega
  have hBg := h.hB
  have hsm := h.small
  have c0 := H1.c0
  have i0 : ¬ (65536 : Int) < (s.size : Int) := by omega
  have KW : Kept (wrongI s.data.toList = -1) := ⟨by unfold wrongI; rw [hw]⟩
  have KE := Kept.mk he
  clear hw he
  clear hb1 h
  go_enter Tryz.func19, Tryz.ntmps19
  go_wp2_with (first | (go_at_call 33; refine (wrong_any s _ H1.ev.ev hsm).mono ?_; rintro e w2 ⟨rfl, hb2⟩; rw [KW.out]; have H2 := H1.below hb2; have V2 := V1.below hb2; have B2 := Kept.mk (B1.out.trans (hb2.mono H1.hB)); clear hb2) | (go_at_call 34; refine (try_frag H2 ht KE.out).mono ?_; rintro e w3 ⟨hb3, rfl, hl3⟩; have V3 := V2.bel hb3 hgb; have B3 := Kept.mk (B2.out.trans hb3.lo); clear hb3; rw [show ((s.size - r1.length : Nat) : Int) = (s.size : Int) - r1.length by omega]; have v0 := V3.c0; have v1 := V3.c1; have z0 := V3.unf 0; have z1 := V3.unf 1; have i1 : (0 : Int) ≤ (s.size : Int) - r1.length := (by omega)))
  refine bodyPost_ret (v := .tuple #[.slice none 0 0, .agg #[.int .i64 130, .int .i64 ((s.size : Int) - r1.length)]]) (by simp [results, Tryz.results19, go_sem, *]) rfl ?_
  exact told_none ((B3.out.setCell (p := ⟨w.heap.size, 0, none⟩) hBg _).setCell (p := ⟨w.heap.size, 1, none⟩) hBg _) rfl
set_option maxRecDepth 100000 in
set_option maxHeartbeats 2000000 in
theorem all_twice_frag {B b F : Nat} {s : ByteArray} {w : World} (h : Ps B b s Ppa.st0 s.data.toList w) (ht : Pch.textsL s.data.toList = true) (hw : Ppa.wrongL s.data.toList = none) {st : Ppa.St} (he : Ppa.fragM s.size F s.data.toList = some (.ok st)) (h2 : 0 ≤ st.twice) :
    Calls Tryz.prog 19 #[.pointer (some ⟨b, 0, none⟩), .func (.func 24) #[.pointer (some ⟨b, 0, none⟩)] #[]] w fun e w' => Told B w ([], 282, st.twice) e w' := by
  have hb1 : Below w.heap.size w (w.alloc (.cells #[.int .i64 0, .int .i64 0] 26)) := (Below.refl _ _).alloc (Nat.le_refl _) _
  have H1 := h.below hb1
  have V1 := Fv.new w
  have B1 := Kept.mk (hb1.mono h.hB)
  have hgb : w.heap.size ≠ b := by have := h.lt; omega
  have hBg := h.hB
  have hsm := h.small
  have c0 := H1.c0
  have i0 : ¬ (65536 : Int) < (s.size : Int) := by omega
  have KW : Kept (wrongI s.data.toList = -1) := ⟨by unfold wrongI; rw [hw]⟩
  have KE := Kept.mk he
  clear hw he
  clear hb1 h
  go_enter Tryz.func19, Tryz.ntmps19
  go_wp2_with (first | (go_at_call 33; refine (wrong_any s _ H1.ev.ev hsm).mono ?_; rintro e w2 ⟨rfl, hb2⟩; rw [KW.out]; have H2 := H1.below hb2; have V2 := V1.below hb2; have B2 := Kept.mk (B1.out.trans (hb2.mono H1.hB)); clear hb2) | (go_at_call 34; refine (try_frag H2 ht KE.out).mono ?_; rintro e w3 ⟨hb3, rfl, r3, H3⟩; have V3 := V2.bel hb3 hgb; have B3 := Kept.mk (B2.out.trans hb3.lo); clear hb3; have v0 := V3.c0; have v1 := V3.c1; have z0 := V3.unf 0; have z1 := V3.unf 1; have c5 := H3.c5))
  have V4 : Fv w.heap.size 0 0 w3.drew := ⟨V3.blk⟩
  have e0 := V4.c0
  have e1 := V4.c1
  have e5 : w3.drew.cell? ⟨b, 5, none⟩ = some (.int .i64 st.twice) := c5
  have y0 := V4.unf 0
  have y1 := V4.unf 1
  go_region
  all_goals
    go_wp2
    refine bodyPost_ret (v := .tuple #[.slice none 0 0, .agg #[.int .i64 282, .int .i64 st.twice]]) (by simp [results, Tryz.results19, go_sem, *]) rfl ?_
    exact told_none ((B3.out.drew.setCell (p := ⟨w.heap.size, 0, none⟩) hBg _).setCell (p := ⟨w.heap.size, 1, none⟩) hBg _) rfl
set_option maxRecDepth 100000 in
set_option maxHeartbeats 2000000 in
theorem all_deep_frag {B b F : Nat} {s : ByteArray} {w : World} (h : Ps B b s Ppa.st0 s.data.toList w) (ht : Pch.textsL s.data.toList = true) (hw : Ppa.wrongL s.data.toList = none) {st : Ppa.St} (he : Ppa.fragM s.size F s.data.toList = some (.ok st)) (h2 : ¬ 0 ≤ st.twice) (h3 : 0 ≤ st.deep) :
    Calls Tryz.prog 19 #[.pointer (some ⟨b, 0, none⟩), .func (.func 24) #[.pointer (some ⟨b, 0, none⟩)] #[]] w fun e w' => Told B w ([], 131, st.deep) e w' := by
  have hb1 : Below w.heap.size w (w.alloc (.cells #[.int .i64 0, .int .i64 0] 26)) := (Below.refl _ _).alloc (Nat.le_refl _) _
  have H1 := h.below hb1
  have V1 := Fv.new w
  have B1 := Kept.mk (hb1.mono h.hB)
  have hgb : w.heap.size ≠ b := by have := h.lt; omega
  have hBg := h.hB
  have hsm := h.small
  have c0 := H1.c0
  have i0 : ¬ (65536 : Int) < (s.size : Int) := by omega
  have KW : Kept (wrongI s.data.toList = -1) := ⟨by unfold wrongI; rw [hw]⟩
  have KE := Kept.mk he
  clear hw he
  clear hb1 h
  go_enter Tryz.func19, Tryz.ntmps19
  go_wp2_with (first | (go_at_call 33; refine (wrong_any s _ H1.ev.ev hsm).mono ?_; rintro e w2 ⟨rfl, hb2⟩; rw [KW.out]; have H2 := H1.below hb2; have V2 := V1.below hb2; have B2 := Kept.mk (B1.out.trans (hb2.mono H1.hB)); clear hb2) | (go_at_call 34; refine (try_frag H2 ht KE.out).mono ?_; rintro e w3 ⟨hb3, rfl, r3, H3⟩; have V3 := V2.bel hb3 hgb; have B3 := Kept.mk (B2.out.trans hb3.lo); clear hb3; have v0 := V3.c0; have v1 := V3.c1; have z0 := V3.unf 0; have z1 := V3.unf 1; have c5 := H3.c5; have c6 := H3.c6))
  have V4 : Fv w.heap.size 0 0 w3.drew := ⟨V3.blk⟩
  have e0 := V4.c0
  have e1 := V4.c1
  have e6 : w3.drew.cell? ⟨b, 6, none⟩ = some (.int .i64 st.deep) := c6
  have y0 := V4.unf 0
  have y1 := V4.unf 1
  go_region
  all_goals
    go_wp2
    refine bodyPost_ret (v := .tuple #[.slice none 0 0, .agg #[.int .i64 131, .int .i64 st.deep]]) (by simp [results, Tryz.results19, go_sem, *]) rfl ?_
    exact told_none ((B3.out.drew.setCell (p := ⟨w.heap.size, 0, none⟩) hBg _).setCell (p := ⟨w.heap.size, 1, none⟩) hBg _) rfl
set_option maxRecDepth 100000 in
set_option maxHeartbeats 2000000 in
theorem all_many_frag {B b F : Nat} {s : ByteArray} {w : World} (h : Ps B b s Ppa.st0 s.data.toList w) (ht : Pch.textsL s.data.toList = true) (hw : Ppa.wrongL s.data.toList = none) {st : Ppa.St} (he : Ppa.fragM s.size F s.data.toList = some (.ok st)) (h2 : ¬ 0 ≤ st.twice) (h3 : ¬ 0 ≤ st.deep) (h4 : 16384 < st.nodes.length) :
    Calls Tryz.prog 19 #[.pointer (some ⟨b, 0, none⟩), .func (.func 24) #[.pointer (some ⟨b, 0, none⟩)] #[]] w fun e w' => Told B w ([], 3, 0) e w' := by
  have hb1 : Below w.heap.size w (w.alloc (.cells #[.int .i64 0, .int .i64 0] 26)) := (Below.refl _ _).alloc (Nat.le_refl _) _
  have H1 := h.below hb1
  have V1 := Fv.new w
  have B1 := Kept.mk (hb1.mono h.hB)
  have hgb : w.heap.size ≠ b := by have := h.lt; omega
  have hBg := h.hB
  have hsm := h.small
  have c0 := H1.c0
  have i0 : ¬ (65536 : Int) < (s.size : Int) := by omega
  have KW : Kept (wrongI s.data.toList = -1) := ⟨by unfold wrongI; rw [hw]⟩
  have KE := Kept.mk he
  clear hw he
  have i4 : (16384 : Int) < (st.nodes.length : Int) := by omega
  clear hb1 h
  go_enter Tryz.func19, Tryz.ntmps19
  go_wp2_with (first | (go_at_call 33; refine (wrong_any s _ H1.ev.ev hsm).mono ?_; rintro e w2 ⟨rfl, hb2⟩; rw [KW.out]; have H2 := H1.below hb2; have V2 := V1.below hb2; have B2 := Kept.mk (B1.out.trans (hb2.mono H1.hB)); clear hb2) | (go_at_call 34; refine (try_frag H2 ht KE.out).mono ?_; rintro e w3 ⟨hb3, rfl, r3, H3⟩; have V3 := V2.bel hb3 hgb; have B3 := Kept.mk (B2.out.trans hb3.lo); clear hb3; have v0 := V3.c0; have v1 := V3.c1; have z0 := V3.unf 0; have z1 := V3.unf 1; have c5 := H3.c5; have c6 := H3.c6; obtain ⟨A, c, p, v, X⟩ := H3.px; have c2 := X.c2; have HN := Kept.mk X.nds; clear X))
  refine bodyPost_ret (v := .tuple #[.slice none 0 0, .agg #[.int .i64 3, .int .i64 0]]) (by simp [results, Tryz.results19, go_sem, *]) rfl ?_
  exact told_none ((B3.out.setCell (p := ⟨w.heap.size, 0, none⟩) hBg _).setCell (p := ⟨w.heap.size, 1, none⟩) hBg _) rfl
set_option maxRecDepth 100000 in
set_option maxHeartbeats 2000000 in
theorem all_ok_frag {B b F : Nat} {s : ByteArray} {w : World} (h : Ps B b s Ppa.st0 s.data.toList w) (ht : Pch.textsL s.data.toList = true) (hw : Ppa.wrongL s.data.toList = none) {st : Ppa.St} (he : Ppa.fragM s.size F s.data.toList = some (.ok st)) (h2 : ¬ 0 ≤ st.twice) (h3 : ¬ 0 ≤ st.deep) (h4 : ¬ 16384 < st.nodes.length) :
    Calls Tryz.prog 19 #[.pointer (some ⟨b, 0, none⟩), .func (.func 24) #[.pointer (some ⟨b, 0, none⟩)] #[]] w fun e w' => Told B w (st.nodes, 0, 0) e w' := by
  have hb1 : Below w.heap.size w (w.alloc (.cells #[.int .i64 0, .int .i64 0] 26)) := (Below.refl _ _).alloc (Nat.le_refl _) _
  have H1 := h.below hb1
  have V1 := Fv.new w
  have B1 := Kept.mk (hb1.mono h.hB)
  have hgb : w.heap.size ≠ b := by have := h.lt; omega
  have hBg := h.hB
  have hsm := h.small
  have c0 := H1.c0
  have i0 : ¬ (65536 : Int) < (s.size : Int) := by omega
  have KW : Kept (wrongI s.data.toList = -1) := ⟨by unfold wrongI; rw [hw]⟩
  have KE := Kept.mk he
  clear hw he
  have i4 : ¬ (16384 : Int) < (st.nodes.length : Int) := by omega
  clear hb1 h
  go_enter Tryz.func19, Tryz.ntmps19
  go_wp2_with (first | (go_at_call 33; refine (wrong_any s _ H1.ev.ev hsm).mono ?_; rintro e w2 ⟨rfl, hb2⟩; rw [KW.out]; have H2 := H1.below hb2; have V2 := V1.below hb2; have B2 := Kept.mk (B1.out.trans (hb2.mono H1.hB)); clear hb2) | (go_at_call 34; refine (try_frag H2 ht KE.out).mono ?_; rintro e w3 ⟨hb3, rfl, r3, H3⟩; have V3 := V2.bel hb3 hgb; have B3 := Kept.mk (B2.out.trans hb3.lo); clear hb3; have v0 := V3.c0; have v1 := V3.c1; have z0 := V3.unf 0; have z1 := V3.unf 1; have c5 := H3.c5; have c6 := H3.c6; obtain ⟨A, c, p, v, X⟩ := H3.px; have c2 := X.c2; have HN := Kept.mk X.nds; clear X))
  refine bodyPost_ret (v := .tuple #[.slice A st.nodes.length c, .agg #[.int .i64 0, .int .i64 0]]) (by simp [results, Tryz.results19, go_sem, *]) rfl ?_
  exact ⟨((B3.out.setCell (p := ⟨w.heap.size, 0, none⟩) hBg _).setCell (p := ⟨w.heap.size, 1, none⟩) hBg _), A, c, rfl, V3.nds HN.out _ _⟩
set_option maxRecDepth 100000 in
theorem all_long {B b k : Nat} {s : ByteArray} {x : List Value} {w : World} (way : Value) (h : Row b s k x w) (hs : 65536 < s.size) (hs2 : s.size ≤ 1000000) (hB : B ≤ w.heap.size) :
    Calls Tryz.prog 19 #[.pointer (some ⟨b, 0, none⟩), way] w fun e w' => Told B w ([], 3, 0) e w' := by
  have hb1 : Below w.heap.size w (w.alloc (.cells #[.int .i64 0, .int .i64 0] 26)) := (Below.refl _ _).alloc (Nat.le_refl _) _
  have H1 := h.below hb1
  have c0 := H1.c0
  have i0 : (65536 : Int) < (s.size : Int) := by omega
  clear hb1 h
  go_enter Tryz.func19, Tryz.ntmps19
  go_wp2
  refine bodyPost_ret (v := .tuple #[.slice none 0 0, .agg #[.int .i64 3, .int .i64 0]]) (by simp [results, Tryz.results19, go_sem, *]) rfl ?_
  exact told_none ((Below.refl _ _).alloc hB _) rfl
end Go.Proofs.YtlemdhfekdiaeaaGreatDoor.Wps
