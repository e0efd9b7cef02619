/- Joined texts: ParseAD, ParseAE, ParseAF, ParseLs. -/
import Derived.Test.YtemfmidhekdekaaGreatDoorPsF
import Derived.Defers
import Derived.Recover
import Derived.Test.YtemfmidhekdekaaGreatDoorPsB
import Derived.WalkSmall
import Derived.Laws.StructEq
namespace Go.Proofs.YtemfmidhekdekaaGreatDoor.Wps
open Go Go.RowKit Go.Proofs.YtemfmidhekdekaaGreatDoor.Kb Go.Proofs.YtemfmidhekdekaaGreatDoor.Wch Go.Proofs.YtemfmidhekdekaaGreatDoor.Emk

theorem as_broken (v : Value) (w : World) : (Instr.typeAssert (.iface 95 v) 20 95 false).run Tryz.prog w = .ok v w := by kernel_rfl
theorem catch_p (p : Addr) (x k : Int) (w : World) (hc : w.cell? p = some (.int .i64 x)) (hz : w.frozen? p = false) :
    CallsD Tryz.prog 66 #[.pointer (some p)] (.panicking ({ v := .iface 95 (.int .i64 k), recovered := false } :: [])) w fun e u' w' =>
      e = .returned (.tuple #[]) ∧ u' = .panicking ({ v := .iface 95 (.int .i64 k), recovered := true } :: []) ∧ w' = w.setCell p (.int .i64 k) := by
  refine callsD_of_wpS Tryz.func66 rfl fun c₀ cs hu => ?_
  apply wpS_seq
  apply wpS_region
  simp [wpOpsS, go_sem, recoverD, hu, Tryz.ntmps66, Exit.thenS]
  apply wpS_seq
  apply wpS_region
  simp [wpOpsS, go_sem, Exit.thenS]
  refine wpS_cond (t := true) (by simp [Act.eval, Array.replicate]) ?_
  simp only [if_true]
  apply wpS_region
  simp [wpOpsS, go_sem, hc, hz, bodyPostS, results, Tryz.results66, as_broken]
theorem catch_i (p : Addr) (w : World) :
    CallsD Tryz.prog 66 #[.pointer (some p)] .returning w fun e u' w' => e = .returned (.tuple #[]) ∧ u' = .returning ∧ w' = w := by
  refine callsD_of_wpS Tryz.func66 rfl fun c₀ cs hu => ?_
  apply wpS_seq
  apply wpS_region
  simp [wpOpsS, go_sem, recoverD, hu, Tryz.ntmps66, Exit.thenS]
  apply wpS_seq
  apply wpS_region
  simp [wpOpsS, go_sem, Exit.thenS]
  refine wpS_cond (t := false) (by simp [Act.eval, Array.replicate]) ?_
  simp only [Bool.false_eq_true, if_false]
  refine wpS_of_wp (wp_skip ?_)
  cases c₀
  simp_all [bodyPostS, results, Tryz.results66]
theorem Bel.setNew {B b g : Nat} {w w2 : World} (h : Bel B b w w2) (hg : w.heap.size ≤ g) (hB : B ≤ g) (i : Nat) (u : Value) : Bel B b w (w2.setCell ⟨g, i, none⟩ u) :=
  ⟨h.lo.setCell (p := ⟨g, i, none⟩) hB u, fun k cs T h1 h2 h3 h4 => (Below.heap_setCell _ _ _ _ (by have := (Array.getElem?_eq_some_iff.1 h4).1; simp; omega)).trans (h.far k cs T h1 h2 h3 h4)⟩
/-- what try tells -/
def Tried (B b : Nat) (s : ByteArray) (w : World) (o : Except Ppa.Bs Ppa.St) (e : Ending) (w' : World) : Prop :=
  Bel B b w w' ∧ match o with
      | .ok st => e = .returned (.int .i64 (-1)) ∧ ∃ r, Ps B b s st r w'
      | .error r => e = .returned (.int .i64 ((s.size - r.length : Nat) : Int)) ∧ r.length ≤ s.size
theorem Ps.keepInt {B b g : Nat} {s : ByteArray} {st : Ppa.St} {r : Ppa.Bs} {w : World} {cs : Array Value} (h : Ps B b s st r w) (hg : w.heap[g]? = some (.cells cs 3 (0, 0))) (hB : B ≤ g) (i : Nat) (u : Value) : Ps B b s st r (w.setCell ⟨g, i, none⟩ u) := by
  obtain ⟨A, c, p, v, X⟩ := h.px
  have hgb : b ≠ g := by
    intro e
    subst e
    have h1 := X.blk
    rw [hg] at h1
    injection h1 with h1
    injection h1 with _ h1 _
    exact absurd h1 (by decide)
  have hX : Px B b s st (s.size - r.length) A c p v (w.setCell ⟨g, i, none⟩ u) := ⟨X.known, (Below.heap_setCell _ _ _ _ hgb).trans X.blk, Flt.own_other X.buf (own_block_ne hg (by decide) X.buf), Flt.own_other X.nds (nodes_ne hg (by decide) X.nds)⟩
  exact hX.ps h.suf (h.ev.below ((Below.refl B w).setCell (p := ⟨g, i, none⟩) hB u)) h.le h.small
set_option maxRecDepth 100000 in
set_option maxHeartbeats 2000000 in
theorem try_doc {B b F : Nat} {s : ByteArray} {w : World} (h : Ps B b s Ppa.st0 s.data.toList w) (ht : Pch.textsL s.data.toList = true) {o : Except Ppa.Bs Ppa.St} (he : Ppa.docM s.size F s.data.toList = some o) :
    Calls Tryz.prog 41 #[.func (.func 38) #[.pointer (some ⟨b, 0, none⟩)] #[]] w fun e w' => Tried B b s w o e w' := by
  have hmf : ∀ (fn : Fn) (first cap : Array Value) (w : World), (Instr.makeFunc fn first cap).run Tryz.prog w = .ok (.func fn first cap) w := fun _ _ _ _ => rfl
  have hb1 : Below w.heap.size w (w.alloc (.cells #[.int .i64 0] 3)) := (Below.refl _ _).alloc (Nat.le_refl _) _
  have H1 := h.below hb1
  have B1 := Kept.mk (Bel.of (b := b) hb1 h.hB)
  have hgb : w.heap.size ≠ b := by have := h.lt; omega
  have hBg := h.hB
  have hblk : (w.alloc (.cells #[.int .i64 0] 3)).heap[w.heap.size]? = some (.cells #[.int .i64 0] 3 (0, 0)) := heap_alloc_new _ _
  have HB := Kept.mk hblk
  have CD := Kept.mk (document_s H1 ht he)
  clear hb1 H1 h he hblk
  cases o with
  | ok st =>
    go_enter_defers Tryz.func41, Tryz.ntmps41
    go_wp2_with (go_at_call 38; refine CD.out.mono ?_; rintro e w2 ⟨hb2, rfl, r2, H2⟩; have hg2 := hb2.far _ _ _ hgb (by decide) (by decide) HB.out; have c2 : w2.cell? ⟨w.heap.size, 0, none⟩ = some (.int .i64 0) := (by rw [cell_of_row w2 _ _ _ _ _ hg2]; rfl); have f2 : w2.frozen? ⟨w.heap.size, 0, none⟩ = false := Joins.unfrozen_of_block hg2 _; have B2 := Kept.mk (B1.out.trans hb2); have G2 := Kept.mk hg2; clear hb2 hg2)
    refine leaves_cons (f := 66) (args := #[.pointer (some ⟨w.heap.size, 0, none⟩)]) (by simp) (by simp [go_sem]) ?_
    refine (catch_i ⟨w.heap.size, 0, none⟩ _).mono ?_
    rintro e u' w'' ⟨rfl, rfl, rfl⟩
    have c3 : (w2.setCell ⟨w.heap.size, 0, none⟩ (.int .i64 (-1))).cell? ⟨w.heap.size, 0, none⟩ = some (.int .i64 (-1)) := by
      have h1 : (w2.setCell ⟨w.heap.size, 0, none⟩ (.int .i64 (-1))).heap[w.heap.size]? = some (.cells #[.int .i64 (-1)] 3 (0, 0)) := by rw [Joins.block_setCell G2.out]; rfl
      rw [cell_of_row _ _ _ _ _ _ h1]
      rfl
    have HT : Tried B b s w (.ok st) (.returned (.int .i64 (-1))) (w2.setCell ⟨w.heap.size, 0, none⟩ (.int .i64 (-1))) := ⟨B2.out.setNew (Nat.le_refl _) hBg 0 _, rfl, r2, H2.keepInt G2.out hBg 0 _⟩
    simp [Leaves, settle, results, Tryz.results41, go_sem, c3]
    exact HT
  | error r1 =>
    go_enter_defers Tryz.func41, Tryz.ntmps41
    go_wp2_with (go_at_call 38; refine CD.out.mono ?_; rintro e w2 ⟨hb2, rfl, hl2⟩; have hg2 := hb2.far _ _ _ hgb (by decide) (by decide) HB.out; have c2 : w2.cell? ⟨w.heap.size, 0, none⟩ = some (.int .i64 0) := (by rw [cell_of_row w2 _ _ _ _ _ hg2]; rfl); have f2 : w2.frozen? ⟨w.heap.size, 0, none⟩ = false := Joins.unfrozen_of_block hg2 _; have B2 := Kept.mk (B1.out.trans hb2); have G2 := Kept.mk hg2; clear hb2 hg2)
    refine leaves_cons (f := 66) (args := #[.pointer (some ⟨w.heap.size, 0, none⟩)]) (by simp) (by simp [go_sem]) ?_
    refine (catch_p ⟨w.heap.size, 0, none⟩ 0 ((s.size - r1.length : Nat) : Int) _ c2 f2).mono ?_
    rintro e u' w'' ⟨rfl, rfl, rfl⟩
    have c3 : (w2.setCell ⟨w.heap.size, 0, none⟩ (.int .i64 ((s.size - r1.length : Nat) : Int))).cell? ⟨w.heap.size, 0, none⟩ = some (.int .i64 ((s.size - r1.length : Nat) : Int)) := by
      have h1 : (w2.setCell ⟨w.heap.size, 0, none⟩ (.int .i64 ((s.size - r1.length : Nat) : Int))).heap[w.heap.size]? = some (.cells #[.int .i64 ((s.size - r1.length : Nat) : Int)] 3 (0, 0)) := by rw [Joins.block_setCell G2.out]; rfl
      rw [cell_of_row _ _ _ _ _ _ h1]
      rfl
    have HT : Tried B b s w (.error r1) (.returned (.int .i64 ((s.size - r1.length : Nat) : Int))) (w2.setCell ⟨w.heap.size, 0, none⟩ (.int .i64 ((s.size - r1.length : Nat) : Int))) := ⟨B2.out.setNew (Nat.le_refl _) hBg 0 _, rfl, hl2⟩
    simp [Leaves, settle, results, Tryz.results41, go_sem, c3]
    exact HT
set_option maxRecDepth 100000 in
set_option maxHeartbeats 2000000 in
theorem try_frag {B b F : Nat} {s : ByteArray} {w : World} (h : Ps B b s Ppa.st0 s.data.toList w) (ht : Pch.textsL s.data.toList = true) {o : Except Ppa.Bs Ppa.St} (he : Ppa.fragM s.size F s.data.toList = some o) :
    Calls Tryz.prog 41 #[.func (.func 23) #[.pointer (some ⟨b, 0, none⟩)] #[]] w fun e w' => Tried B b s w o e w' := by
  have hmf : ∀ (fn : Fn) (first cap : Array Value) (w : World), (Instr.makeFunc fn first cap).run Tryz.prog w = .ok (.func fn first cap) w := fun _ _ _ _ => rfl
  have hb1 : Below w.heap.size w (w.alloc (.cells #[.int .i64 0] 3)) := (Below.refl _ _).alloc (Nat.le_refl _) _
  have H1 := h.below hb1
  have B1 := Kept.mk (Bel.of (b := b) hb1 h.hB)
  have hgb : w.heap.size ≠ b := by have := h.lt; omega
  have hBg := h.hB
  have hblk : (w.alloc (.cells #[.int .i64 0] 3)).heap[w.heap.size]? = some (.cells #[.int .i64 0] 3 (0, 0)) := heap_alloc_new _ _
  have HB := Kept.mk hblk
  have CD := Kept.mk (fragment_s H1 ht he)
  clear hb1 H1 h he hblk
  cases o with
  | ok st =>
    go_enter_defers Tryz.func41, Tryz.ntmps41
    go_wp2_with (go_at_call 23; refine CD.out.mono ?_; rintro e w2 ⟨hb2, rfl, r2, H2⟩; have hg2 := hb2.far _ _ _ hgb (by decide) (by decide) HB.out; have c2 : w2.cell? ⟨w.heap.size, 0, none⟩ = some (.int .i64 0) := (by rw [cell_of_row w2 _ _ _ _ _ hg2]; rfl); have f2 : w2.frozen? ⟨w.heap.size, 0, none⟩ = false := Joins.unfrozen_of_block hg2 _; have B2 := Kept.mk (B1.out.trans hb2); have G2 := Kept.mk hg2; clear hb2 hg2)
    refine leaves_cons (f := 66) (args := #[.pointer (some ⟨w.heap.size, 0, none⟩)]) (by simp) (by simp [go_sem]) ?_
    refine (catch_i ⟨w.heap.size, 0, none⟩ _).mono ?_
    rintro e u' w'' ⟨rfl, rfl, rfl⟩
    have c3 : (w2.setCell ⟨w.heap.size, 0, none⟩ (.int .i64 (-1))).cell? ⟨w.heap.size, 0, none⟩ = some (.int .i64 (-1)) := by
      have h1 : (w2.setCell ⟨w.heap.size, 0, none⟩ (.int .i64 (-1))).heap[w.heap.size]? = some (.cells #[.int .i64 (-1)] 3 (0, 0)) := by rw [Joins.block_setCell G2.out]; rfl
      rw [cell_of_row _ _ _ _ _ _ h1]
      rfl
    have HT : Tried B b s w (.ok st) (.returned (.int .i64 (-1))) (w2.setCell ⟨w.heap.size, 0, none⟩ (.int .i64 (-1))) := ⟨B2.out.setNew (Nat.le_refl _) hBg 0 _, rfl, r2, H2.keepInt G2.out hBg 0 _⟩
    simp [Leaves, settle, results, Tryz.results41, go_sem, c3]
    exact HT
  | error r1 =>
    go_enter_defers Tryz.func41, Tryz.ntmps41
    go_wp2_with (go_at_call 23; refine CD.out.mono ?_; rintro e w2 ⟨hb2, rfl, hl2⟩; have hg2 := hb2.far _ _ _ hgb (by decide) (by decide) HB.out; have c2 : w2.cell? ⟨w.heap.size, 0, none⟩ = some (.int .i64 0) := (by rw [cell_of_row w2 _ _ _ _ _ hg2]; rfl); have f2 : w2.frozen? ⟨w.heap.size, 0, none⟩ = false := Joins.unfrozen_of_block hg2 _; have B2 := Kept.mk (B1.out.trans hb2); have G2 := Kept.mk hg2; clear hb2 hg2)
    refine leaves_cons (f := 66) (args := #[.pointer (some ⟨w.heap.size, 0, none⟩)]) (by simp) (by simp [go_sem]) ?_
    refine (catch_p ⟨w.heap.size, 0, none⟩ 0 ((s.size - r1.length : Nat) : Int) _ c2 f2).mono ?_
    rintro e u' w'' ⟨rfl, rfl, rfl⟩
    have c3 : (w2.setCell ⟨w.heap.size, 0, none⟩ (.int .i64 ((s.size - r1.length : Nat) : Int))).cell? ⟨w.heap.size, 0, none⟩ = some (.int .i64 ((s.size - r1.length : Nat) : Int)) := by
      have h1 : (w2.setCell ⟨w.heap.size, 0, none⟩ (.int .i64 ((s.size - r1.length : Nat) : Int))).heap[w.heap.size]? = some (.cells #[.int .i64 ((s.size - r1.length : Nat) : Int)] 3 (0, 0)) := by rw [Joins.block_setCell G2.out]; rfl
      rw [cell_of_row _ _ _ _ _ _ h1]
      rfl
    have HT : Tried B b s w (.error r1) (.returned (.int .i64 ((s.size - r1.length : Nat) : Int))) (w2.setCell ⟨w.heap.size, 0, none⟩ (.int .i64 ((s.size - r1.length : Nat) : Int))) := ⟨B2.out.setNew (Nat.le_refl _) hBg 0 _, rfl, hl2⟩
    simp [Leaves, settle, results, Tryz.results41, go_sem, c3]
    exact HT
/-- the first byte at which no character of texts stands; -1: none -/
def wrongI (l : Ppa.Bs) : Int := match Ppa.wrongL l with | some k => (k : Int) | none => -1
def wrongO (o : Option Nat) : Int := match o with | some k => (k : Int) | none => -1
theorem wrong_next {f k : Nat} {r : Ppa.Bs} (h : r ≠ []) (h1 : Pch.charB (Lib.decodeL r).1 = true) (h2 : Pch.okR (Lib.decodeL r) = true) : Ppa.wrongF (f + 1) k r = Ppa.wrongF f (k + (Lib.decodeL r).2) (Ppa.skip r) := by
  rw [Ppa.wrongF, if_neg h, if_pos ⟨h2, h1⟩]
theorem wrong_here {f k : Nat} {r : Ppa.Bs} (h : r ≠ []) (h1 : ¬ (Pch.okR (Lib.decodeL r) = true ∧ Pch.charB (Lib.decodeL r).1 = true)) : Ppa.wrongF (f + 1) k r = some k := by
  rw [Ppa.wrongF, if_neg h, if_neg h1]
theorem wrong_end (f k : Nat) : Ppa.wrongF f k [] = none := by
  cases f with
  | zero => rfl
  | succ f => rw [Ppa.wrongF, if_pos rfl]
set_option maxRecDepth 100000 in
set_option maxHeartbeats 2000000 in
theorem wrong_any (s : ByteArray) (w : World) (he : Ev w) (hs : s.size ≤ 65536) :
    Calls Tryz.prog 40 #[.string s] w fun e w' => e = .returned (.int .i64 (wrongI s.data.toList)) ∧ Below w.heap.size w w' := by
  have hT : wrongO (Ppa.wrongF s.size 0 (s.data.toList.drop 0)) = wrongI s.data.toList := by unfold wrongI Ppa.wrongL wrongO; rw [size_len, List.drop_zero]
  generalize wrongI s.data.toList = T at hT
  have HT := Kept.mk hT
  have HEV := Kept.mk he.env
  have hlw : ∀ o, Below w.heap.size w (w.alloc o) := fun o => (Below.refl _ w).alloc (Nat.le_refl _) o
  clear hT he
  go_enter Tryz.func40, Tryz.ntmps40
  go_wp2
  go_loopg [3, 4, 5, 6] s.size (fun g _ _ _ _ wx => ∃ pos : Nat, wx.heap[w.heap.size]? = some (.stringIter s pos) ∧ Kept (Below w.heap.size w wx) ∧ Kept (wrongO (Ppa.wrongF g pos (s.data.toList.drop pos)) = T) ∧ s.size ≤ pos + g)
  case atStart => exact ⟨0, World.iter_heap w s 0, ⟨hlw _⟩, HT, by omega⟩
  case round =>
    obtain ⟨pos, hit, HB, HE, hle⟩ := hrel
    have hsz : w.heap.size < wr.heap.size := (Array.getElem?_eq_some_iff.1 hit).1
    by_cases hp : pos < s.size
    · obtain ⟨g, rfl⟩ : ∃ g, gk = g + 1 := ⟨gk - 1, by omega⟩
      have hne : s.data.toList.drop pos ≠ [] := by
        intro e
        have := congrArg List.length e
        rw [List.length_drop, size_len] at this
        simp at this
        omega
      have hnx : ∀ ty, (Instr.next (.pointer (some ⟨w.heap.size, 0, none⟩)) true ty).run Tryz.prog wr = _ := fun ty => Lib.run_next_any_at wr w.heap.size s pos ty hit hp
      rw [← Lib.decodeL_drop] at hnx
      have hw1 := Lib.decodeL_width (s.data.toList.drop pos)
      have hw4 := Ppa.decodeL_four (s.data.toList.drop pos)
      have hsk : Ppa.skip (s.data.toList.drop pos) = s.data.toList.drop (pos + (Lib.decodeL (s.data.toList.drop pos)).2) := by unfold Ppa.skip; rw [List.drop_drop]
      have h1 := HE.out
      have hgo := wrong_next (f := g) (k := pos) hne
      have hno := wrong_here (f := g) (k := pos) hne
      rw [hsk] at hgo
      have hlo := peek_lo (s.data.toList.drop pos)
      rw [peek_has hne] at hlo
      have CD := fun (wx : World) (hx : Env wx) => decode_call s pos hp wx hx
      generalize hD : Lib.decodeL (s.data.toList.drop pos) = D at hnx hw1 hw4 hgo hno CD hlo
      obtain ⟨c, d⟩ := D
      dsimp only at hnx hw1 hw4 hgo hno CD hlo
      have hit2 := Lib.iterAt_heap wr w.heap.size s pos (pos + d) hit
      have hB2 := Lib.below_iterAt HB.out (Nat.le_refl _) s (pos + d)
      obtain ⟨W, hWd⟩ : ∃ W, wr.iterAt w.heap.size s (pos + d) = W := ⟨_, rfl⟩
      rw [hWd] at hnx hit2 hB2
      have hWs : w.heap.size < W.heap.size := (Array.getElem?_eq_some_iff.1 hit2).1
      have HB2 := Kept.mk hB2
      have HCD := Kept.mk CD
      have H0 := Kept.mk (HEV.out.below hB2)
      have p0 : (0 : Int) ≤ (pos : Int) := by omega
      have p1 : (pos : Int) ≤ 65536 := by omega
      have p2 : (pos : Int) ≤ (s.size : Int) := by omega
      obtain ⟨hlo1, hlo2⟩ := hlo
      clear hB2 hit HB hWd hD hsk CD HE hne
      cases hC : Pch.charB (c : Int) with
      | false =>
        rw [hno (by rintro ⟨_, h⟩; rw [hC] at h; cases h)] at h1
        have H2 := Kept.mk h1.symm
        have HC := Kept.mk hC
        clear h1 hC hgo hno
        go_wp2_with (first | (go_at_call 64; refine (HCD.out _ H0.out).mono ?_; rintro e w1 ⟨rfl, hb1⟩; have HI1 := Kept.mk ((hb1.block _ hWs).trans hit2); have HB1 := Kept.mk (HB2.out.trans (hb1.mono (Nat.le_of_lt hWs))); have H1 := Kept.mk (H0.out.below hb1); have hz1 := hb1.size; clear hb1) | (go_at_call 65; refine (char_any _ _).mono ?_; rintro e w2 ⟨rfl, rfl⟩; rw [HC.out]))
        go_ret
        exact ⟨by rw [H2.out]; rfl, HB1.out⟩
      | true =>
        have HC := Kept.mk hC
        by_cases hE : c = 65533
        · subst hE
          clear HC
          have HC : Kept (Pch.charB 65533 = true) := ⟨by decide⟩
          by_cases hD1 : d = 1
          · subst hD1
            rw [hno (by rintro ⟨h, _⟩; cases h)] at h1
            have H2 := Kept.mk h1.symm
            clear h1 hC hgo hno
            go_wp2_with (first | (go_at_call 64; refine (HCD.out _ H0.out).mono ?_; rintro e w1 ⟨rfl, hb1⟩; have HI1 := Kept.mk ((hb1.block _ hWs).trans hit2); have HB1 := Kept.mk (HB2.out.trans (hb1.mono (Nat.le_of_lt hWs))); have H1 := Kept.mk (H0.out.below hb1); have hz1 := hb1.size; clear hb1) | (go_at_call 65; refine (char_any _ _).mono ?_; rintro e w2 ⟨rfl, rfl⟩; rw [HC.out]))
            go_ret
            exact ⟨by rw [H2.out]; rfl, HB1.out⟩
          · rw [hgo hC (by unfold Pch.okR; simp [hD1])] at h1
            have H2 := Kept.mk h1
            have q1 : ¬ (d : Int) = 1 := by omega
            have q2 : ((d : Int) == 1) = false := by simpa using q1
            clear h1 hC hgo hno hD1
            go_wp2_with (first | (go_at_call 64; refine (HCD.out _ H0.out).mono ?_; rintro e w1 ⟨rfl, hb1⟩; have HI1 := Kept.mk ((hb1.block _ hWs).trans hit2); have HB1 := Kept.mk (HB2.out.trans (hb1.mono (Nat.le_of_lt hWs))); have H1 := Kept.mk (H0.out.below hb1); have hz1 := hb1.size; clear hb1) | (go_at_call 65; refine (char_any _ _).mono ?_; rintro e w2 ⟨rfl, rfl⟩; rw [HC.out]))
            go_roundg g
            case measure => omega
            case rel => exact ⟨pos + d, HI1.out, HB1, H2, by omega⟩
        · rw [hgo hC (by unfold Pch.okR; simp [hE])] at h1
          have H2 := Kept.mk h1
          have q1 : ¬ (c : Int) = 65533 := by omega
          have q2 : ((c : Int) == 65533) = false := by simpa using q1
          clear h1 hC hgo hno hE
          go_wp2_with (first | (go_at_call 64; refine (HCD.out _ H0.out).mono ?_; rintro e w1 ⟨rfl, hb1⟩; have HI1 := Kept.mk ((hb1.block _ hWs).trans hit2); have HB1 := Kept.mk (HB2.out.trans (hb1.mono (Nat.le_of_lt hWs))); have H1 := Kept.mk (H0.out.below hb1); have hz1 := hb1.size; clear hb1) | (go_at_call 65; refine (char_any _ _).mono ?_; rintro e w2 ⟨rfl, rfl⟩; rw [HC.out]))
          go_roundg g
          case measure => omega
          case rel => exact ⟨pos + d, HI1.out, HB1, H2, by omega⟩
    · have hnx : ∀ ty, (Instr.next (.pointer (some ⟨w.heap.size, 0, none⟩)) true ty).run Tryz.prog wr = _ := fun ty => Lib.run_next_end_at wr w.heap.size s pos ty hit hp
      have h1 := HE.out
      rw [List.drop_eq_nil_of_le (by rw [size_len]; omega), wrong_end] at h1
      have H1 := Kept.mk h1.symm
      clear h1 HE
      go_wp2
      go_ret
      exact ⟨by rw [H1.out]; rfl, HB.out⟩
end Go.Proofs.YtemfmidhekdekaaGreatDoor.Wps
namespace Go.Proofs.YtemfmidhekdekaaGreatDoor.Wps
open Go Go.RowKit Go.Proofs.YtemfmidhekdekaaGreatDoor.Kb Go.Proofs.YtemfmidhekdekaaGreatDoor.Wch Go.Proofs.YtemfmidhekdekaaGreatDoor.Emk

/-- what is told -/
def Told (B : Nat) (w : World) (m : List Ptr.Nd × Int × Int) (e : Ending) (w' : World) : Prop :=
  Below B w w' ∧ ∃ A c, e = .returned (.tuple #[.slice A m.1.length c, .agg #[.int .i64 m.2.1, .int .i64 m.2.2]]) ∧ w'.ownsRow B 32 4 (.slice A m.1.length c) m.1.length (Wtr.ndsC m.1)
theorem told_none {B : Nat} {w w' : World} {e : Ending} {x y : Int} (hb : Below B w w') (he : e = .returned (.tuple #[.slice none 0 0, .agg #[.int .i64 x, .int .i64 y]])) : Told B w ([], x, y) e w' := ⟨hb, none, 0, he, World.ownsRow_nil _ _ _ _⟩
/-- the fault's own variable -/
structure Fv (g : Nat) (x y : Int) (w : World) : Prop where
  blk : w.heap[g]? = some (.cells #[.int .i64 x, .int .i64 y] 26 (0, 0))
section
variable {g : Nat} {x y : Int} {w w' : World}
theorem Fv.c0 (h : Fv g x y w) : w.cell? ⟨g, 0, none⟩ = some (.int .i64 x) := by rw [cell_of_row w g _ _ _ _ h.blk]; rfl
theorem Fv.c1 (h : Fv g x y w) : w.cell? ⟨g, 1, none⟩ = some (.int .i64 y) := by rw [cell_of_row w g _ _ _ _ h.blk]; rfl
theorem Fv.unf (h : Fv g x y w) (i : Nat) : w.frozen? ⟨g, i, none⟩ = false := Joins.unfrozen_of_block h.blk _
theorem Fv.new (w : World) : Fv w.heap.size 0 0 (w.alloc (.cells #[.int .i64 0, .int .i64 0] 26)) := ⟨heap_alloc_new _ _⟩
theorem Fv.lt (h : Fv g x y w) : g < w.heap.size := (Array.getElem?_eq_some_iff.1 h.blk).1
theorem Fv.below (h : Fv g x y w) (hb : Below w.heap.size w w') : Fv g x y w' := ⟨(hb.block g h.lt).trans h.blk⟩
theorem Fv.bel {B b : Nat} (h : Fv g x y w) (hb : Bel B b w w') (hne : g ≠ b) : Fv g x y w' := ⟨hb.far g _ _ hne (by decide) (by decide) h.blk⟩
theorem Fv.nds {B n : Nat} {v : Value} {xs : List Value} (h : Fv g x y w) (ho : w.ownsRow B 32 4 v n xs) (u1 u2 : Value) : ((w.setCell ⟨g, 0, none⟩ u1).setCell ⟨g, 1, none⟩ u2).ownsRow B 32 4 v n xs := by
  have hne := nodes_ne h.blk (by decide) ho
  exact Flt.own_other (Flt.own_other ho hne) hne
end
set_option maxRecDepth 100000 in
set_option maxHeartbeats 2000000 in
theorem all_wrong_doc {B b : Nat} {s : ByteArray} {w : World} (h : Ps B b s Ppa.st0 s.data.toList w) {k : Nat} (hw : Ppa.wrongL s.data.toList = some k) :
    Calls Tryz.prog 22 #[.pointer (some ⟨b, 0, none⟩), .func (.func 38) #[.pointer (some ⟨b, 0, none⟩)] #[]] w fun e w' => Told B w ([], 120, (k : Int)) e w' := by
  have hb1 : Below w.heap.size w (w.alloc (.cells #[.int .i64 0, .int .i64 0] 26)) := (Below.refl _ _).alloc (Nat.le_refl _) _
  have H1 := h.below hb1
  have V1 := Fv.new w
  have B1 := Kept.mk (hb1.mono h.hB)
  have hgb : w.heap.size ≠ b := by have := h.lt; omega
  have hBg := h.hB
  have hsm := h.small
  have c0 := H1.c0
  have i0 : ¬ (65536 : Int) < (s.size : Int) := by omega
  have KW : Kept (wrongI s.data.toList = (k : Int)) := ⟨by unfold wrongI; rw [hw]⟩
  have i1 : (0 : Int) ≤ (k : Int) := by omega
  clear hw
  clear hb1 h
  go_enter Tryz.func22, Tryz.ntmps22
  go_wp2_with (go_at_call 40; refine (wrong_any s _ H1.ev.ev hsm).mono ?_; rintro e w2 ⟨rfl, hb2⟩; rw [KW.out]; have H2 := H1.below hb2; have V2 := V1.below hb2; have B2 := Kept.mk (B1.out.trans (hb2.mono H1.hB)); clear hb2; have v0 := V2.c0; have v1 := V2.c1; have z0 := V2.unf 0; have z1 := V2.unf 1)
  refine bodyPost_ret (v := .tuple #[.slice none 0 0, .agg #[.int .i64 120, .int .i64 (k : Int)]]) (by simp [results, Tryz.results22, go_sem, *]) rfl ?_
  exact told_none ((B2.out.setCell (p := ⟨w.heap.size, 0, none⟩) hBg _).setCell (p := ⟨w.heap.size, 1, none⟩) hBg _) rfl
set_option maxRecDepth 100000 in
set_option maxHeartbeats 2000000 in
theorem all_err_doc {B b F : Nat} {s : ByteArray} {w : World} (h : Ps B b s Ppa.st0 s.data.toList w) (ht : Pch.textsL s.data.toList = true) (hw : Ppa.wrongL s.data.toList = none) {r1 : Ppa.Bs} (he : Ppa.docM s.size F s.data.toList = some (.error r1)) :
    Calls Tryz.prog 22 #[.pointer (some ⟨b, 0, none⟩), .func (.func 38) #[.pointer (some ⟨b, 0, none⟩)] #[]] w fun e w' => Told B w ([], 130, (s.size : Int) - r1.length) e w' := by
  have hb1 : Below w.heap.size w (w.alloc (.cells #[.int .i64 0, .int .i64 0] 26)) := (Below.refl _ _).alloc (Nat.le_refl _) _
  have H1 := h.below hb1
  have V1 := Fv.new w
  have B1 := Kept.mk (hb1.mono h.hB)
  have hgb : w.heap.size ≠ b := by have := h.lt; omega
  have hBg := h.hB
  have hsm := h.small
  have c0 := H1.c0
  have i0 : ¬ (65536 : Int) < (s.size : Int) := by omega
  have KW : Kept (wrongI s.data.toList = -1) := ⟨by unfold wrongI; rw [hw]⟩
  have KE := Kept.mk he
  clear hw he
  clear hb1 h
  go_enter Tryz.func22, Tryz.ntmps22
  go_wp2_with (first | (go_at_call 40; refine (wrong_any s _ H1.ev.ev hsm).mono ?_; rintro e w2 ⟨rfl, hb2⟩; rw [KW.out]; have H2 := H1.below hb2; have V2 := V1.below hb2; have B2 := Kept.mk (B1.out.trans (hb2.mono H1.hB)); clear hb2) | (go_at_call 41; refine (try_doc H2 ht KE.out).mono ?_; rintro e w3 ⟨hb3, rfl, hl3⟩; have V3 := V2.bel hb3 hgb; have B3 := Kept.mk (B2.out.trans hb3.lo); clear hb3; rw [show ((s.size - r1.length : Nat) : Int) = (s.size : Int) - r1.length by omega]; have v0 := V3.c0; have v1 := V3.c1; have z0 := V3.unf 0; have z1 := V3.unf 1; have i1 : (0 : Int) ≤ (s.size : Int) - r1.length := (by omega)))
  refine bodyPost_ret (v := .tuple #[.slice none 0 0, .agg #[.int .i64 130, .int .i64 ((s.size : Int) - r1.length)]]) (by simp [results, Tryz.results22, go_sem, *]) rfl ?_
  exact told_none ((B3.out.setCell (p := ⟨w.heap.size, 0, none⟩) hBg _).setCell (p := ⟨w.heap.size, 1, none⟩) hBg _) rfl
set_option maxRecDepth 100000 in
set_option maxHeartbeats 2000000 in
theorem all_twice_doc {B b F : Nat} {s : ByteArray} {w : World} (h : Ps B b s Ppa.st0 s.data.toList w) (ht : Pch.textsL s.data.toList = true) (hw : Ppa.wrongL s.data.toList = none) {st : Ppa.St} (he : Ppa.docM s.size F s.data.toList = some (.ok st)) (h2 : 0 ≤ st.twice) :
    Calls Tryz.prog 22 #[.pointer (some ⟨b, 0, none⟩), .func (.func 38) #[.pointer (some ⟨b, 0, none⟩)] #[]] w fun e w' => Told B w ([], 282, st.twice) e w' := by
  have hb1 : Below w.heap.size w (w.alloc (.cells #[.int .i64 0, .int .i64 0] 26)) := (Below.refl _ _).alloc (Nat.le_refl _) _
  have H1 := h.below hb1
  have V1 := Fv.new w
  have B1 := Kept.mk (hb1.mono h.hB)
  have hgb : w.heap.size ≠ b := by have := h.lt; omega
  have hBg := h.hB
  have hsm := h.small
  have c0 := H1.c0
  have i0 : ¬ (65536 : Int) < (s.size : Int) := by omega
  have KW : Kept (wrongI s.data.toList = -1) := ⟨by unfold wrongI; rw [hw]⟩
  have KE := Kept.mk he
  clear hw he
  clear hb1 h
  go_enter Tryz.func22, Tryz.ntmps22
  go_wp2_with (first | (go_at_call 40; refine (wrong_any s _ H1.ev.ev hsm).mono ?_; rintro e w2 ⟨rfl, hb2⟩; rw [KW.out]; have H2 := H1.below hb2; have V2 := V1.below hb2; have B2 := Kept.mk (B1.out.trans (hb2.mono H1.hB)); clear hb2) | (go_at_call 41; refine (try_doc H2 ht KE.out).mono ?_; rintro e w3 ⟨hb3, rfl, r3, H3⟩; have V3 := V2.bel hb3 hgb; have B3 := Kept.mk (B2.out.trans hb3.lo); clear hb3; have v0 := V3.c0; have v1 := V3.c1; have z0 := V3.unf 0; have z1 := V3.unf 1; have c5 := H3.c5))
  have V4 : Fv w.heap.size 0 0 w3.drew := ⟨V3.blk⟩
  have e0 := V4.c0
  have e1 := V4.c1
  have e5 : w3.drew.cell? ⟨b, 5, none⟩ = some (.int .i64 st.twice) := c5
  have y0 := V4.unf 0
  have y1 := V4.unf 1
  go_region
  all_goals
    go_wp2
    refine bodyPost_ret (v := .tuple #[.slice none 0 0, .agg #[.int .i64 282, .int .i64 st.twice]]) (by simp [results, Tryz.results22, go_sem, *]) rfl ?_
    exact told_none ((B3.out.drew.setCell (p := ⟨w.heap.size, 0, none⟩) hBg _).setCell (p := ⟨w.heap.size, 1, none⟩) hBg _) rfl
set_option maxRecDepth 100000 in
set_option maxHeartbeats 2000000 in
theorem all_deep_doc {B b F : Nat} {s : ByteArray} {w : World} (h : Ps B b s Ppa.st0 s.data.toList w) (ht : Pch.textsL s.data.toList = true) (hw : Ppa.wrongL s.data.toList = none) {st : Ppa.St} (he : Ppa.docM s.size F s.data.toList = some (.ok st)) (h2 : ¬ 0 ≤ st.twice) (h3 : 0 ≤ st.deep) :
    Calls Tryz.prog 22 #[.pointer (some ⟨b, 0, none⟩), .func (.func 38) #[.pointer (some ⟨b, 0, none⟩)] #[]] w fun e w' => Told B w ([], 131, st.deep) e w' := by
  have hb1 : Below w.heap.size w (w.alloc (.cells #[.int .i64 0, .int .i64 0] 26)) := (Below.refl _ _).alloc (Nat.le_refl _) _
  have H1 := h.below hb1
  have V1 := Fv.new w
  have B1 := Kept.mk (hb1.mono h.hB)
  have hgb : w.heap.size ≠ b := by have := h.lt; omega
  have hBg := h.hB
  have hsm := h.small
  have c0 := H1.c0
  have i0 : ¬ (65536 : Int) < (s.size : Int) := by omega
  have KW : Kept (wrongI s.data.toList = -1) := ⟨by unfold wrongI; rw [hw]⟩
  have KE := Kept.mk he
  clear hw he
  clear hb1 h
  go_enter Tryz.func22, Tryz.ntmps22
  go_wp2_with (first | (go_at_call 40; refine (wrong_any s _ H1.ev.ev hsm).mono ?_; rintro e w2 ⟨rfl, hb2⟩; rw [KW.out]; have H2 := H1.below hb2; have V2 := V1.below hb2; have B2 := Kept.mk (B1.out.trans (hb2.mono H1.hB)); clear hb2) | (go_at_call 41; refine (try_doc H2 ht KE.out).mono ?_; rintro e w3 ⟨hb3, rfl, r3, H3⟩; have V3 := V2.bel hb3 hgb; have B3 := Kept.mk (B2.out.trans hb3.lo); clear hb3; have v0 := V3.c0; have v1 := V3.c1; have z0 := V3.unf 0; have z1 := V3.unf 1; have c5 := H3.c5; have c6 := H3.c6))
  have V4 : Fv w.heap.size 0 0 w3.drew := ⟨V3.blk⟩
  have e0 := V4.c0
  have e1 := V4.c1
  have e6 : w3.drew.cell? ⟨b, 6, none⟩ = some (.int .i64 st.deep) := c6
  have y0 := V4.unf 0
  have y1 := V4.unf 1
  go_region
  all_goals
    go_wp2
    refine bodyPost_ret (v := .tuple #[.slice none 0 0, .agg #[.int .i64 131, .int .i64 st.deep]]) (by simp [results, Tryz.results22, go_sem, *]) rfl ?_
    exact told_none ((B3.out.drew.setCell (p := ⟨w.heap.size, 0, none⟩) hBg _).setCell (p := ⟨w.heap.size, 1, none⟩) hBg _) rfl
set_option maxRecDepth 100000 in
set_option maxHeartbeats 2000000 in
theorem all_many_doc {B b F : Nat} {s : ByteArray} {w : World} (h : Ps B b s Ppa.st0 s.data.toList w) (ht : Pch.textsL s.data.toList = true) (hw : Ppa.wrongL s.data.toList = none) {st : Ppa.St} (he : Ppa.docM s.size F s.data.toList = some (.ok st)) (h2 : ¬ 0 ≤ st.twice) (h3 : ¬ 0 ≤ st.deep) (h4 : 16384 < st.nodes.length) :
    Calls Tryz.prog 22 #[.pointer (some ⟨b, 0, none⟩), .func (.func 38) #[.pointer (some ⟨b, 0, none⟩)] #[]] w fun e w' => Told B w ([], 3, 0) e w' := by
  have hb1 : Below w.heap.size w (w.alloc (.cells #[.int .i64 0, .int .i64 0] 26)) := (Below.refl _ _).alloc (Nat.le_refl _) _
  have H1 := h.below hb1
  have V1 := Fv.new w
  have B1 := Kept.mk (hb1.mono h.hB)
  have hgb : w.heap.size ≠ b := by have := h.lt; omega
  have hBg := h.hB
  have hsm := h.small
  have c0 := H1.c0
  have i0 : ¬ (65536 : Int) < (s.size : Int) := by omega
  have KW : Kept (wrongI s.data.toList = -1) := ⟨by unfold wrongI; rw [hw]⟩
  have KE := Kept.mk he
  clear hw he
  have i4 : (16384 : Int) < (st.nodes.length : Int) := by omega
  clear hb1 h
  go_enter Tryz.func22, Tryz.ntmps22
  go_wp2_with (first | (go_at_call 40; refine (wrong_any s _ H1.ev.ev hsm).mono ?_; rintro e w2 ⟨rfl, hb2⟩; rw [KW.out]; have H2 := H1.below hb2; have V2 := V1.below hb2; have B2 := Kept.mk (B1.out.trans (hb2.mono H1.hB)); clear hb2) | (go_at_call 41; refine (try_doc H2 ht KE.out).mono ?_; rintro e w3 ⟨hb3, rfl, r3, H3⟩; have V3 := V2.bel hb3 hgb; have B3 := Kept.mk (B2.out.trans hb3.lo); clear hb3; have v0 := V3.c0; have v1 := V3.c1; have z0 := V3.unf 0; have z1 := V3.unf 1; have c5 := H3.c5; have c6 := H3.c6; obtain ⟨A, c, p, v, X⟩ := H3.px; have c2 := X.c2; have HN := Kept.mk X.nds; clear X))
  refine bodyPost_ret (v := .tuple #[.slice none 0 0, .agg #[.int .i64 3, .int .i64 0]]) (by simp [results, Tryz.results22, go_sem, *]) rfl ?_
  exact told_none ((B3.out.setCell (p := ⟨w.heap.size, 0, none⟩) hBg _).setCell (p := ⟨w.heap.size, 1, none⟩) hBg _) rfl
set_option maxRecDepth 100000 in
set_option maxHeartbeats 2000000 in
theorem all_ok_doc {B b F : Nat} {s : ByteArray} {w : World} (h : Ps B b s Ppa.st0 s.data.toList w) (ht : Pch.textsL s.data.toList = true) (hw : Ppa.wrongL s.data.toList = none) {st : Ppa.St} (he : Ppa.docM s.size F s.data.toList = some (.ok st)) (h2 : ¬ 0 ≤ st.twice) (h3 : ¬ 0 ≤ st.deep) (h4 : ¬ 16384 < st.nodes.length) :
    Calls Tryz.prog 22 #[.pointer (some ⟨b, 0, none⟩), .func (.func 38) #[.pointer (some ⟨b, 0, none⟩)] #[]] w fun e w' => Told B w (st.nodes, 0, 0) e w' := by
  have hb1 : Below w.heap.size w (w.alloc (.cells #[.int .i64 0, .int .i64 0] 26)) := (Below.refl _ _).alloc (Nat.le_refl _) _
  have H1 := h.below hb1
  have V1 := Fv.new w
  have B1 := Kept.mk (hb1.mono h.hB)
  have hgb : w.heap.size ≠ b := by have := h.lt; omega
  have hBg := h.hB
  have hsm := h.small
  have c0 := H1.c0
  have i0 : ¬ (65536 : Int) < (s.size : Int) := by omega
  have KW : Kept (wrongI s.data.toList = -1) := ⟨by unfold wrongI; rw [hw]⟩
  have KE := Kept.mk he
  clear hw he
  have i4 : ¬ (16384 : Int) < (st.nodes.length : Int) := by omega
  clear hb1 h
  go_enter Tryz.func22, Tryz.ntmps22
  go_wp2_with (first | (go_at_call 40; refine (wrong_any s _ H1.ev.ev hsm).mono ?_; rintro e w2 ⟨rfl, hb2⟩; rw [KW.out]; have H2 := H1.below hb2; have V2 := V1.below hb2; have B2 := Kept.mk (B1.out.trans (hb2.mono H1.hB)); clear hb2) | (go_at_call 41; refine (try_doc H2 ht KE.out).mono ?_; rintro e w3 ⟨hb3, rfl, r3, H3⟩; have V3 := V2.bel hb3 hgb; have B3 := Kept.mk (B2.out.trans hb3.lo); clear hb3; have v0 := V3.c0; have v1 := V3.c1; have z0 := V3.unf 0; have z1 := V3.unf 1; have c5 := H3.c5; have c6 := H3.c6; obtain ⟨A, c, p, v, X⟩ := H3.px; have c2 := X.c2; have HN := Kept.mk X.nds; clear X))
  refine bodyPost_ret (v := .tuple #[.slice A st.nodes.length c, .agg #[.int .i64 0, .int .i64 0]]) (by simp [results, Tryz.results22, go_sem, *]) rfl ?_
  exact ⟨((B3.out.setCell (p := ⟨w.heap.size, 0, none⟩) hBg _).setCell (p := ⟨w.heap.size, 1, none⟩) hBg _), A, c, rfl, V3.nds HN.out _ _⟩
set_option maxRecDepth 100000 in
set_option maxHeartbeats 2000000 in
theorem all_wrong_frag {B b : Nat} {s : ByteArray} {w : World} (h : Ps B b s Ppa.st0 s.data.toList w) {k : Nat} (hw : Ppa.wrongL s.data.toList = some k) :
    Calls Tryz.prog 22 #[.pointer (some ⟨b, 0, none⟩), .func (.func 23) #[.pointer (some ⟨b, 0, none⟩)] #[]] w fun e w' => Told B w ([], 120, (k : Int)) e w' := by
  have hb1 : Below w.heap.size w (w.alloc (.cells #[.int .i64 0, .int .i64 0] 26)) := (Below.refl _ _).alloc (Nat.le_refl _) _
  have H1 := h.below hb1
  have V1 := Fv.new w
  have B1 := Kept.mk (hb1.mono h.hB)
  have hgb : w.heap.size ≠ b := by have := h.lt; omega
  have hBg := h.hB
  have hsm := h.small
  have c0 := H1.c0
  have i0 : ¬ (65536 : Int) < (s.size : Int) := by omega
  have KW : Kept (wrongI s.data.toList = (k : Int)) := ⟨by unfold wrongI; rw [hw]⟩
  have i1 : (0 : Int) ≤ (k : Int) := by omega
  clear hw
  clear hb1 h
  go_enter Tryz.func22, Tryz.ntmps22
  go_wp2_with (go_at_call 40; refine (wrong_any s _ H1.ev.ev hsm).mono ?_; rintro e w2 ⟨rfl, hb2⟩; rw [KW.out]; have H2 := H1.below hb2; have V2 := V1.below hb2; have B2 := Kept.mk (B1.out.trans (hb2.mono H1.hB)); clear hb2; have v0 := V2.c0; have v1 := V2.c1; have z0 := V2.unf 0; have z1 := V2.unf 1)
  refine bodyPost_ret (v := .tuple #[.slice none 0 0, .agg #[.int .i64 120, .int .i64 (k : Int)]]) (by simp [results, Tryz.results22, go_sem, *]) rfl ?_
  exact told_none ((B2.out.setCell (p := ⟨w.heap.size, 0, none⟩) hBg _).setCell (p := ⟨w.heap.size, 1, none⟩) hBg _) rfl
set_option maxRecDepth 100000 in
set_option maxHeartbeats 2000000 in
theorem all_err_frag {B b F : Nat} {s : ByteArray} {w : World} (h : Ps B b s Ppa.st0 s.data.toList w) (ht : Pch.textsL s.data.toList = true) (hw : Ppa.wrongL s.data.toList = none) {r1 : Ppa.Bs} (he : Ppa.fragM s.size F s.data.toList = some (.error r1)) :
    Calls Tryz.prog 22 #[.pointer (some ⟨b, 0, none⟩), .func (.func 23) #[.pointer (some ⟨b, 0, none⟩)] #[]] w fun e w' => Told B w ([], 130, (s.size : Int) - r1.length) e w' := by
  have hb1 : Below w.heap.size w (w.alloc (.cells #[.int .i64 0, .int .i64 0] 26)) := (Below.refl _ _).alloc (Nat.le_refl _) _
  have H1 := h.below hb1
  have V1 := Fv.new w
  have B1 := Kept.mk (hb1.mono h.hB)
  have hgb : w.heap.size ≠ b := by have := h.lt; omega
  have hBg := h.hB
  have hsm := h.small
  have c0 := H1.c0
  have i0 : ¬ (65536 : Int) < (s.size : Int) := by omega
  have KW : Kept (wrongI s.data.toList = -1) := ⟨by unfold wrongI; rw [hw]⟩
  have KE := Kept.mk he
  clear hw he
  clear hb1 h
  go_enter Tryz.func22, Tryz.ntmps22
  go_wp2_with (first | (go_at_call 40; refine (wrong_any s _ H1.ev.ev hsm).mono ?_; rintro e w2 ⟨rfl, hb2⟩; rw [KW.out]; have H2 := H1.below hb2; have V2 := V1.below hb2; have B2 := Kept.mk (B1.out.trans (hb2.mono H1.hB)); clear hb2) | (go_at_call 41; refine (try_frag H2 ht KE.out).mono ?_; rintro e w3 ⟨hb3, rfl, hl3⟩; have V3 := V2.bel hb3 hgb; have B3 := Kept.mk (B2.out.trans hb3.lo); clear hb3; rw [show ((s.size - r1.length : Nat) : Int) = (s.size : Int) - r1.length by omega]; have v0 := V3.c0; have v1 := V3.c1; have z0 := V3.unf 0; have z1 := V3.unf 1; have i1 : (0 : Int) ≤ (s.size : Int) - r1.length := (by omega)))
  refine bodyPost_ret (v := .tuple #[.slice none 0 0, .agg #[.int .i64 130, .int .i64 ((s.size : Int) - r1.length)]]) (by simp [results, Tryz.results22, go_sem, *]) rfl ?_
  exact told_none ((B3.out.setCell (p := ⟨w.heap.size, 0, none⟩) hBg _).setCell (p := ⟨w.heap.size, 1, none⟩) hBg _) rfl
set_option maxRecDepth 100000 in
set_option maxHeartbeats 2000000 in
theorem all_twice_frag {B b F : Nat} {s : ByteArray} {w : World} (h : Ps B b s Ppa.st0 s.data.toList w) (ht : Pch.textsL s.data.toList = true) (hw : Ppa.wrongL s.data.toList = none) {st : Ppa.St} (he : Ppa.fragM s.size F s.data.toList = some (.ok st)) (h2 : 0 ≤ st.twice) :
    Calls Tryz.prog 22 #[.pointer (some ⟨b, 0, none⟩), .func (.func 23) #[.pointer (some ⟨b, 0, none⟩)] #[]] w fun e w' => Told B w ([], 282, st.twice) e w' := by
  have hb1 : Below w.heap.size w (w.alloc (.cells #[.int .i64 0, .int .i64 0] 26)) := (Below.refl _ _).alloc (Nat.le_refl _) _
  have H1 := h.below hb1
  have V1 := Fv.new w
  have B1 := Kept.mk (hb1.mono h.hB)
  have hgb : w.heap.size ≠ b := by have := h.lt; omega
  have hBg := h.hB
  have hsm := h.small
  have c0 := H1.c0
  have i0 : ¬ (65536 : Int) < (s.size : Int) := by omega
  have KW : Kept (wrongI s.data.toList = -1) := ⟨by unfold wrongI; rw [hw]⟩
  have KE := Kept.mk he
  clear hw he
  clear hb1 h
  go_enter Tryz.func22, Tryz.ntmps22
  go_wp2_with (first | (go_at_call 40; refine (wrong_any s _ H1.ev.ev hsm).mono ?_; rintro e w2 ⟨rfl, hb2⟩; rw [KW.out]; have H2 := H1.below hb2; have V2 := V1.below hb2; have B2 := Kept.mk (B1.out.trans (hb2.mono H1.hB)); clear hb2) | (go_at_call 41; refine (try_frag H2 ht KE.out).mono ?_; rintro e w3 ⟨hb3, rfl, r3, H3⟩; have V3 := V2.bel hb3 hgb; have B3 := Kept.mk (B2.out.trans hb3.lo); clear hb3; have v0 := V3.c0; have v1 := V3.c1; have z0 := V3.unf 0; have z1 := V3.unf 1; have c5 := H3.c5))
  have V4 : Fv w.heap.size 0 0 w3.drew := ⟨V3.blk⟩
  have e0 := V4.c0
  have e1 := V4.c1
  have e5 : w3.drew.cell? ⟨b, 5, none⟩ = some (.int .i64 st.twice) := c5
  have y0 := V4.unf 0
  have y1 := V4.unf 1
  go_region
  all_goals
    go_wp2
    refine bodyPost_ret (v := .tuple #[.slice none 0 0, .agg #[.int .i64 282, .int .i64 st.twice]]) (by simp [results, Tryz.results22, go_sem, *]) rfl ?_
    exact told_none ((B3.out.drew.setCell (p := ⟨w.heap.size, 0, none⟩) hBg _).setCell (p := ⟨w.heap.size, 1, none⟩) hBg _) rfl
set_option maxRecDepth 100000 in
set_option maxHeartbeats 2000000 in
theorem all_deep_frag {B b F : Nat} {s : ByteArray} {w : World} (h : Ps B b s Ppa.st0 s.data.toList w) (ht : Pch.textsL s.data.toList = true) (hw : Ppa.wrongL s.data.toList = none) {st : Ppa.St} (he : Ppa.fragM s.size F s.data.toList = some (.ok st)) (h2 : ¬ 0 ≤ st.twice) (h3 : 0 ≤ st.deep) :
    Calls Tryz.prog 22 #[.pointer (some ⟨b, 0, none⟩), .func (.func 23) #[.pointer (some ⟨b, 0, none⟩)] #[]] w fun e w' => Told B w ([], 131, st.deep) e w' := by
  have hb1 : Below w.heap.size w (w.alloc (.cells #[.int .i64 0, .int .i64 0] 26)) := (Below.refl _ _).alloc (Nat.le_refl _) _
  have H1 := h.below hb1
  have V1 := Fv.new w
  have B1 := Kept.mk (hb1.mono h.hB)
  have hgb : w.heap.size ≠ b := by have := h.lt; omega
  have hBg := h.hB
  have hsm := h.small
  have c0 := H1.c0
  have i0 : ¬ (65536 : Int) < (s.size : Int) := by omega
  have KW : Kept (wrongI s.data.toList = -1) := ⟨by unfold wrongI; rw [hw]⟩
  have KE := Kept.mk he
  clear hw he
  clear hb1 h
  go_enter Tryz.func22, Tryz.ntmps22
  go_wp2_with (first | (go_at_call 40; refine (wrong_any s _ H1.ev.ev hsm).mono ?_; rintro e w2 ⟨rfl, hb2⟩; rw [KW.out]; have H2 := H1.below hb2; have V2 := V1.below hb2; have B2 := Kept.mk (B1.out.trans (hb2.mono H1.hB)); clear hb2) | (go_at_call 41; refine (try_frag H2 ht KE.out).mono ?_; rintro e w3 ⟨hb3, rfl, r3, H3⟩; have V3 := V2.bel hb3 hgb; have B3 := Kept.mk (B2.out.trans hb3.lo); clear hb3; have v0 := V3.c0; have v1 := V3.c1; have z0 := V3.unf 0; have z1 := V3.unf 1; have c5 := H3.c5; have c6 := H3.c6))
  have V4 : Fv w.heap.size 0 0 w3.drew := ⟨V3.blk⟩
  have e0 := V4.c0
  have e1 := V4.c1
  have e6 : w3.drew.cell? ⟨b, 6, none⟩ = some (.int .i64 st.deep) := c6
  have y0 := V4.unf 0
  have y1 := V4.unf 1
  go_region
  all_goals
    go_wp2
    refine bodyPost_ret (v := .tuple #[.slice none 0 0, .agg #[.int .i64 131, .int .i64 st.deep]]) (by simp [results, Tryz.results22, go_sem, *]) rfl ?_
    exact told_none ((B3.out.drew.setCell (p := ⟨w.heap.size, 0, none⟩) hBg _).setCell (p := ⟨w.heap.size, 1, none⟩) hBg _) rfl
set_option maxRecDepth 100000 in
set_option maxHeartbeats 2000000 in
theorem all_many_frag {B b F : Nat} {s : ByteArray} {w : World} (h : Ps B b s Ppa.st0 s.data.toList w) (ht : Pch.textsL s.data.toList = true) (hw : Ppa.wrongL s.data.toList = none) {st : Ppa.St} (he : Ppa.fragM s.size F s.data.toList = some (.ok st)) (h2 : ¬ 0 ≤ st.twice) (h3 : ¬ 0 ≤ st.deep) (h4 : 16384 < st.nodes.length) :
    Calls Tryz.prog 22 #[.pointer (some ⟨b, 0, none⟩), .func (.func 23) #[.pointer (some ⟨b, 0, none⟩)] #[]] w fun e w' => Told B w ([], 3, 0) e w' := by
  have hb1 : Below w.heap.size w (w.alloc (.cells #[.int .i64 0, .int .i64 0] 26)) := (Below.refl _ _).alloc (Nat.le_refl _) _
  have H1 := h.below hb1
  have V1 := Fv.new w
  have B1 := Kept.mk (hb1.mono h.hB)
  have hgb : w.heap.size ≠ b := by have := h.lt; omega
  have hBg := h.hB
  have hsm := h.small
  have c0 := H1.c0
  have i0 : ¬ (65536 : Int) < (s.size : Int) := by omega
  have KW : Kept (wrongI s.data.toList = -1) := ⟨by unfold wrongI; rw [hw]⟩
  have KE := Kept.mk he
  clear hw he
  have i4 : (16384 : Int) < (st.nodes.length : Int) := by omega
  clear hb1 h
  go_enter Tryz.func22, Tryz.ntmps22
  go_wp2_with (first | (go_at_call 40; refine (wrong_any s _ H1.ev.ev hsm).mono ?_; rintro e w2 ⟨rfl, hb2⟩; rw [KW.out]; have H2 := H1.below hb2; have V2 := V1.below hb2; have B2 := Kept.mk (B1.out.trans (hb2.mono H1.hB)); clear hb2) | (go_at_call 41; refine (try_frag H2 ht KE.out).mono ?_; rintro e w3 ⟨hb3, rfl, r3, H3⟩; have V3 := V2.bel hb3 hgb; have B3 := Kept.mk (B2.out.trans hb3.lo); clear hb3; have v0 := V3.c0; have v1 := V3.c1; have z0 := V3.unf 0; have z1 := V3.unf 1; have c5 := H3.c5; have c6 := H3.c6; obtain ⟨A, c, p, v, X⟩ := H3.px; have c2 := X.c2; have HN := Kept.mk X.nds; clear X))
  refine bodyPost_ret (v := .tuple #[.slice none 0 0, .agg #[.int .i64 3, .int .i64 0]]) (by simp [results, Tryz.results22, go_sem, *]) rfl ?_
  exact told_none ((B3.out.setCell (p := ⟨w.heap.size, 0, none⟩) hBg _).setCell (p := ⟨w.heap.size, 1, none⟩) hBg _) rfl
set_option maxRecDepth 100000 in
set_option maxHeartbeats 2000000 in
theorem all_ok_frag {B b F : Nat} {s : ByteArray} {w : World} (h : Ps B b s Ppa.st0 s.data.toList w) (ht : Pch.textsL s.data.toList = true) (hw : Ppa.wrongL s.data.toList = none) {st : Ppa.St} (he : Ppa.fragM s.size F s.data.toList = some (.ok st)) (h2 : ¬ 0 ≤ st.twice) (h3 : ¬ 0 ≤ st.deep) (h4 : ¬ 16384 < st.nodes.length) :
    Calls Tryz.prog 22 #[.pointer (some ⟨b, 0, none⟩), .func (.func 23) #[.pointer (some ⟨b, 0, none⟩)] #[]] w fun e w' => Told B w (st.nodes, 0, 0) e w' := by
  have hb1 : Below w.heap.size w (w.alloc (.cells #[.int .i64 0, .int .i64 0] 26)) := (Below.refl _ _).alloc (Nat.le_refl _) _
  have H1 := h.below hb1
  have V1 := Fv.new w
  have B1 := Kept.mk (hb1.mono h.hB)
  have hgb : w.heap.size ≠ b := by have := h.lt; omega
  have hBg := h.hB
  have hsm := h.small
  have c0 := H1.c0
  have i0 : ¬ (65536 : Int) < (s.size : Int) := by omega
  have KW : Kept (wrongI s.data.toList = -1) := ⟨by unfold wrongI; rw [hw]⟩
  have KE := Kept.mk he
  clear hw he
  have i4 : ¬ (16384 : Int) < (st.nodes.length : Int) := by omega
  clear hb1 h
  go_enter Tryz.func22, Tryz.ntmps22
  go_wp2_with (first | (go_at_call 40; refine (wrong_any s _ H1.ev.ev hsm).mono ?_; rintro e w2 ⟨rfl, hb2⟩; rw [KW.out]; have H2 := H1.below hb2; have V2 := V1.below hb2; have B2 := Kept.mk (B1.out.trans (hb2.mono H1.hB)); clear hb2) | (go_at_call 41; refine (try_frag H2 ht KE.out).mono ?_; rintro e w3 ⟨hb3, rfl, r3, H3⟩; have V3 := V2.bel hb3 hgb; have B3 := Kept.mk (B2.out.trans hb3.lo); clear hb3; have v0 := V3.c0; have v1 := V3.c1; have z0 := V3.unf 0; have z1 := V3.unf 1; have c5 := H3.c5; have c6 := H3.c6; obtain ⟨A, c, p, v, X⟩ := H3.px; have c2 := X.c2; have HN := Kept.mk X.nds; clear X))
  refine bodyPost_ret (v := .tuple #[.slice A st.nodes.length c, .agg #[.int .i64 0, .int .i64 0]]) (by simp [results, Tryz.results22, go_sem, *]) rfl ?_
  exact ⟨((B3.out.setCell (p := ⟨w.heap.size, 0, none⟩) hBg _).setCell (p := ⟨w.heap.size, 1, none⟩) hBg _), A, c, rfl, V3.nds HN.out _ _⟩
set_option maxRecDepth 100000 in
theorem all_long {B b k : Nat} {s : ByteArray} {x : List Value} {w : World} (way : Value) (h : Row b s k x w) (hs : 65536 < s.size) (hs2 : s.size ≤ 1000000) (hB : B ≤ w.heap.size) :
    Calls Tryz.prog 22 #[.pointer (some ⟨b, 0, none⟩), way] w fun e w' => Told B w ([], 3, 0) e w' := by
  have hb1 : Below w.heap.size w (w.alloc (.cells #[.int .i64 0, .int .i64 0] 26)) := (Below.refl _ _).alloc (Nat.le_refl _) _
  have H1 := h.below hb1
  have c0 := H1.c0
  have i0 : (65536 : Int) < (s.size : Int) := by omega
  clear hb1 h
  go_enter Tryz.func22, Tryz.ntmps22
  go_wp2
  refine bodyPost_ret (v := .tuple #[.slice none 0 0, .agg #[.int .i64 3, .int .i64 0]]) (by simp [results, Tryz.results22, go_sem, *]) rfl ?_
  exact told_none ((Below.refl _ _).alloc hB _) rfl
end Go.Proofs.YtemfmidhekdekaaGreatDoor.Wps
namespace Go.Proofs.YtemfmidhekdekaaGreatDoor.Ppa
open Go Go.Lib Go.Proofs.YtemfmidhekdekaaGreatDoor.Ptr Go.Proofs.YtemfmidhekdekaaGreatDoor.Wps

theorem docF_some {N : Nat} : ∀ (f : Nat) (done : Bool) (r : Bs) (s : St), 3 * r.length + 3 ≤ f → ∃ o, docF N f done r s = some o
  | 0, done, r, s, h => by omega
  | f + 1, done, r, s, h => by
    have hb := (blanksL_suf r).length_le
    by_cases h0 : blanksL r = []
    · rw [docF_nil h0]
      split <;> exact ⟨_, rfl⟩
    · by_cases h60 : (blanksL r).head? = some 60
      · obtain ⟨t, ht⟩ := head_cons h60
        rw [ht] at hb
        simp only [List.length_cons] at hb
        by_cases h63 : t.head? = some 63
        · obtain ⟨u, rfl⟩ := head_cons h63
          rw [docF_pi ht]
          simp only [List.length_cons] at hb
          cases hi : instrM 0 u s with
          | error r' => exact ⟨_, rfl⟩
          | ok q =>
            obtain ⟨r', s'⟩ := q
            have := (instrM_ok hi).1.length_le
            exact docF_some f done r' s' (by omega)
        · by_cases h33 : t.head? = some 33
          · obtain ⟨u, rfl⟩ := head_cons h33
            rw [docF_bang ht]
            simp only [List.length_cons] at hb
            cases hm : mustL [45] u with
            | error r' => exact ⟨_, rfl⟩
            | ok r1 =>
              have l1 := (mustL_suf hm).length_le
              dsimp only
              cases hi : commM 0 r1 s with
              | error r' => exact ⟨_, rfl⟩
              | ok q =>
                obtain ⟨r', s'⟩ := q
                have := (commM_ok hi).1.length_le
                exact docF_some f done r' s' (by omega)
          · rw [docF_elem ht h63 h33]
            split
            · exact ⟨_, rfl⟩
            · obtain ⟨o, ho⟩ := (kd_all N f).elem 0 1 t s (by omega)
              rw [ho]
              cases o with
              | error r' => exact ⟨_, rfl⟩
              | ok q =>
                obtain ⟨r', s'⟩ := q
                have := ((kc_all N f).elem 0 1 t s r' s' ho).1.length_le
                exact docF_some f true r' s' (by omega)
      · rw [docF_bad h0 h60]
        exact ⟨_, rfl⟩
theorem docM_eq (N f : Nat) (l : Bs) : docM N f l = if hasPrefix l xmlW = true ∧ blankH (l.drop 5) = true then (match declM (l.drop 5) with | .error r => some (.error r) | .ok r => docF N f false r stR) else docF N f false l stR := rfl
theorem docM_some (l : Bs) : ∃ o, docM l.length (fuel l.length) l = some o := by
  rw [docM_eq]
  split
  · cases hd : declM (l.drop 5) with
    | error r => exact ⟨_, rfl⟩
    | ok r =>
      have h1 := (declM_ok hd).1.length_le
      rw [List.length_drop] at h1
      exact docF_some (fuel l.length) false r stR (by unfold fuel; omega)
  · exact docF_some (fuel l.length) false l stR (by unfold fuel; omega)
theorem fragM_some (l : Bs) : ∃ o, fragM l.length (fuel l.length) l = some o := by
  unfold fragM
  obtain ⟨o, ho⟩ := (kd_all l.length (fuel l.length)).cont (-1) 0 0 l st0 (by unfold fuel; omega)
  rw [ho]
  cases o with
  | error r => exact ⟨_, rfl⟩
  | ok q => exact ⟨_, rfl⟩
theorem wrongF_texts : ∀ (f k : Nat) (r : Bs), r.length ≤ f → wrongF f k r = none → Pch.textsL r = true
  | 0, k, r, hl, _ => by
    have : r = [] := List.eq_nil_of_length_eq_zero (by omega)
    subst this
    rfl
  | f + 1, k, r, hl, h => by
    by_cases hne : r = []
    · subst hne
      rfl
    · rw [wrongF, if_neg hne] at h
      split at h
      · rename_i hc
        have hw := decodeL_width r
        have hp := List.length_pos_iff.2 hne
        have h1 := wrongF_texts f _ (skip r) (by unfold skip; rw [List.length_drop]; omega) h
        unfold Pch.textsL at h1 ⊢
        rw [Pch.runes_step r hne, List.all_cons, Bool.and_eq_true, Bool.and_eq_true]
        exact ⟨⟨hc.1, hc.2⟩, h1⟩
      · cases h
theorem wrongL_texts {l : Bs} (h : wrongL l = none) : Pch.textsL l = true := wrongF_texts l.length 0 l (Nat.le_refl _) h
theorem allM_long {way : Nat → Nat → Bs → Option (Except Bs St)} {l : Bs} (h : 65536 < l.length) : allM way l = ([], 3, 0) := by unfold allM; rw [if_pos h]
theorem allM_wrong {way : Nat → Nat → Bs → Option (Except Bs St)} {l : Bs} {k : Nat} (h : ¬ 65536 < l.length) (hw : wrongL l = some k) : allM way l = ([], 120, (k : Int)) := by unfold allM; rw [if_neg h, hw]
theorem allM_told {way : Nat → Nat → Bs → Option (Except Bs St)} {l : Bs} {o : Except Bs St} (h : ¬ 65536 < l.length) (hw : wrongL l = none) (ho : way l.length (fuel l.length) l = some o) : allM way l = toldM l.length o := by unfold allM; rw [if_neg h, hw, ho]
theorem told_twice {N : Nat} {st : St} (h : 0 ≤ st.twice) : toldM N (.ok st) = ([], 282, st.twice) := by unfold toldM; dsimp only; rw [if_pos h]
theorem told_deep {N : Nat} {st : St} (h : ¬ 0 ≤ st.twice) (h2 : 0 ≤ st.deep) : toldM N (.ok st) = ([], 131, st.deep) := by unfold toldM; dsimp only; rw [if_neg h, if_pos h2]
theorem told_many {N : Nat} {st : St} (h : ¬ 0 ≤ st.twice) (h2 : ¬ 0 ≤ st.deep) (h3 : 16384 < st.nodes.length) : toldM N (.ok st) = ([], 3, 0) := by unfold toldM; dsimp only; rw [if_neg h, if_neg h2, if_pos h3]
theorem told_ok {N : Nat} {st : St} (h : ¬ 0 ≤ st.twice) (h2 : ¬ 0 ≤ st.deep) (h3 : ¬ 16384 < st.nodes.length) : toldM N (.ok st) = (st.nodes, 0, 0) := by unfold toldM; dsimp only; rw [if_neg h, if_neg h2, if_neg h3]
end Go.Proofs.YtemfmidhekdekaaGreatDoor.Ppa
namespace Go.Proofs.YtemfmidhekdekaaGreatDoor.Wps
open Go Go.RowKit Go.Proofs.YtemfmidhekdekaaGreatDoor.Kb Go.Proofs.YtemfmidhekdekaaGreatDoor.Wch Go.Proofs.YtemfmidhekdekaaGreatDoor.Emk

theorem own_mono {w : World} {B B' n k : Nat} {e : TypeId} {v : Value} {xs : List Value} (h : w.ownsRow B e k v n xs) (hB : B' ≤ B) : w.ownsRow B' e k v n xs := by
  refine ⟨h.1, ?_⟩
  rcases h.2 with h0 | ⟨g, cap, cur, h1, h2, h3⟩
  · exact .inl h0
  · exact .inr ⟨g, cap, cur, h1, Nat.le_trans hB h2, h3⟩
abbrev parO (s : ByteArray) : Obj := .cells #[.string s, .int .i64 0, .slice none 0 0, .pointer none, .slice none 0 0, .int .i64 (-1), .int .i64 (-1)] 54
/-- a new parser -/
theorem par_new {s : ByteArray} {w : World} (he : Ev w) (hs : s.size ≤ 65536) : Ps w.heap.size w.heap.size s Ppa.st0 s.data.toList (w.alloc (parO s)) := by
  have hX : Px w.heap.size w.heap.size s Ppa.st0 (s.size - s.data.toList.length) none 0 (.pointer none) (.slice none 0 0) (w.alloc (parO s)) := by
    refine ⟨.inl rfl, ?_, World.ownsRow_nil _ _ _ _, World.ownsRow_nil _ _ _ _⟩
    rw [size_len, Nat.sub_self]
    exact heap_alloc_new _ _
  exact hX.ps (List.suffix_refl _) ⟨w, rfl, (Below.refl _ _).alloc (Nat.le_refl _) _, he⟩ (Nat.le_refl _) hs
theorem all_doc {B b : Nat} {s : ByteArray} {w : World} (h : Ps B b s Ppa.st0 s.data.toList w) :
    Calls Tryz.prog 22 #[.pointer (some ⟨b, 0, none⟩), .func (.func 38) #[.pointer (some ⟨b, 0, none⟩)] #[]] w fun e w' => Told B w (Ppa.documentL s.data.toList) e w' := by
  have hsm := h.small
  have hz := size_len s
  have hnl : ¬ 65536 < s.data.toList.length := by omega
  unfold Ppa.documentL
  cases hw : Ppa.wrongL s.data.toList with
  | some k =>
    rw [Ppa.allM_wrong hnl hw]
    exact all_wrong_doc h hw
  | none =>
    have ht := Ppa.wrongL_texts hw
    obtain ⟨o, ho⟩ := Ppa.docM_some s.data.toList
    rw [Ppa.allM_told hnl hw ho, hz]
    rw [hz] at ho
    cases o with
    | error r1 =>
      exact all_err_doc h ht hw ho
    | ok st =>
      by_cases h2 : 0 ≤ st.twice
      · rw [Ppa.told_twice h2]
        exact all_twice_doc h ht hw ho h2
      · by_cases h3 : 0 ≤ st.deep
        · rw [Ppa.told_deep h2 h3]
          exact all_deep_doc h ht hw ho h2 h3
        · by_cases h4 : 16384 < st.nodes.length
          · rw [Ppa.told_many h2 h3 h4]
            exact all_many_doc h ht hw ho h2 h3 h4
          · rw [Ppa.told_ok h2 h3 h4]
            exact all_ok_doc h ht hw ho h2 h3 h4
theorem all_frag {B b : Nat} {s : ByteArray} {w : World} (h : Ps B b s Ppa.st0 s.data.toList w) :
    Calls Tryz.prog 22 #[.pointer (some ⟨b, 0, none⟩), .func (.func 23) #[.pointer (some ⟨b, 0, none⟩)] #[]] w fun e w' => Told B w (Ppa.fragmentL s.data.toList) e w' := by
  have hsm := h.small
  have hz := size_len s
  have hnl : ¬ 65536 < s.data.toList.length := by omega
  unfold Ppa.fragmentL
  cases hw : Ppa.wrongL s.data.toList with
  | some k =>
    rw [Ppa.allM_wrong hnl hw]
    exact all_wrong_frag h hw
  | none =>
    have ht := Ppa.wrongL_texts hw
    obtain ⟨o, ho⟩ := Ppa.fragM_some s.data.toList
    rw [Ppa.allM_told hnl hw ho, hz]
    rw [hz] at ho
    cases o with
    | error r1 =>
      exact all_err_frag h ht hw ho
    | ok st =>
      by_cases h2 : 0 ≤ st.twice
      · rw [Ppa.told_twice h2]
        exact all_twice_frag h ht hw ho h2
      · by_cases h3 : 0 ≤ st.deep
        · rw [Ppa.told_deep h2 h3]
          exact all_deep_frag h ht hw ho h2 h3
        · by_cases h4 : 16384 < st.nodes.length
          · rw [Ppa.told_many h2 h3 h4]
            exact all_many_frag h ht hw ho h2 h3 h4
          · rw [Ppa.told_ok h2 h3 h4]
            exact all_ok_frag h ht hw ho h2 h3 h4
set_option maxRecDepth 100000 in
set_option maxHeartbeats 2000000 in
theorem document_any (s : ByteArray) (w : World) (he : Ev w) (hs : s.size ≤ 1000000) :
    Calls Tryz.prog 19 #[.string s] w fun e w' => Told w.heap.size w (Ppa.documentL s.data.toList) e w' := by
  have hb1 : Below w.heap.size w (w.alloc (.cells #[.int .i64 0, .int .i64 0] 26)) := (Below.refl _ _).alloc (Nat.le_refl _) _
  have V1 := Fv.new w
  have he1 := he.below hb1
  have hz1 : (w.alloc (.cells #[.int .i64 0, .int .i64 0] 26)).heap.size = w.heap.size + 1 := by simp
  have CA : Kept (Calls Tryz.prog 22 #[.pointer (some ⟨(w.alloc (.cells #[.int .i64 0, .int .i64 0] 26)).heap.size, 0, none⟩), .func (.func 38) #[.pointer (some ⟨(w.alloc (.cells #[.int .i64 0, .int .i64 0] 26)).heap.size, 0, none⟩)] #[]] ((w.alloc (.cells #[.int .i64 0, .int .i64 0] 26)).alloc (parO s)) fun e w' => Told (w.alloc (.cells #[.int .i64 0, .int .i64 0] 26)).heap.size ((w.alloc (.cells #[.int .i64 0, .int .i64 0] 26)).alloc (parO s)) (Ppa.documentL s.data.toList) e w') := by
    constructor
    by_cases hl : 65536 < s.size
    · have hm : Ppa.documentL s.data.toList = ([], 3, 0) := Ppa.allM_long (by rw [size_len]; exact hl)
      rw [hm]
      exact all_long (k := 0) (s := s) _ (heap_alloc_new _ _) hl hs (by simp)
    · exact all_doc (par_new he1 (by omega))
  have HB := Kept.mk hb1
  have HV := Kept.mk V1
  generalize Ppa.documentL s.data.toList = M at CA
  obtain ⟨L, x, y⟩ := M
  rw [hz1] at CA
  have hmf : ∀ (fn : Fn) (first cap : Array Value) (w : World), (Instr.makeFunc fn first cap).run Tryz.prog w = .ok (.func fn first cap) w := fun _ _ _ _ => rfl
  clear he he1 hb1 V1 hz1
  go_enter Tryz.func19, Tryz.ntmps19
  go_wp2_with (go_at_call 22; refine CA.out.mono ?_; rintro e w3 ⟨hb3, A, c, rfl, hn⟩; have B3 := Kept.mk (((HB.out.alloc (by simp) (parO s))).trans (hb3.mono (Nat.le_succ _))); have V3 := (HV.out.below ((Below.refl _ _).alloc (Nat.le_refl _) (parO s))); have V4 : Fv w.heap.size 0 0 w3 := ⟨(hb3.block _ (Nat.lt_succ_self _)).trans V3.blk⟩; have N3 := Kept.mk hn; have v0 := V4.c0; have v1 := V4.c1; have z0 := V4.unf 0; have z1 := V4.unf 1; have KV := Kept.mk V4; clear hb3 hn V3)
  refine bodyPost_ret (v := .tuple #[.slice A L.length c, .agg #[.int .i64 x, .int .i64 y]]) (by simp [results, Tryz.results19, go_sem, *]) rfl ?_
  exact ⟨(B3.out.setCell (p := ⟨w.heap.size, 0, none⟩) (Nat.le_refl _) _).setCell (p := ⟨w.heap.size, 1, none⟩) (Nat.le_refl _) _, A, c, rfl, own_mono (KV.out.nds N3.out _ _) (Nat.le_succ _)⟩
set_option maxRecDepth 100000 in
set_option maxHeartbeats 2000000 in
theorem fragment_any (s : ByteArray) (w : World) (he : Ev w) (hs : s.size ≤ 1000000) :
    Calls Tryz.prog 7 #[.string s] w fun e w' => Told w.heap.size w (Ppa.fragmentL s.data.toList) e w' := by
  have hb1 : Below w.heap.size w (w.alloc (.cells #[.int .i64 0, .int .i64 0] 26)) := (Below.refl _ _).alloc (Nat.le_refl _) _
  have V1 := Fv.new w
  have he1 := he.below hb1
  have hz1 : (w.alloc (.cells #[.int .i64 0, .int .i64 0] 26)).heap.size = w.heap.size + 1 := by simp
  have CA : Kept (Calls Tryz.prog 22 #[.pointer (some ⟨(w.alloc (.cells #[.int .i64 0, .int .i64 0] 26)).heap.size, 0, none⟩), .func (.func 23) #[.pointer (some ⟨(w.alloc (.cells #[.int .i64 0, .int .i64 0] 26)).heap.size, 0, none⟩)] #[]] ((w.alloc (.cells #[.int .i64 0, .int .i64 0] 26)).alloc (parO s)) fun e w' => Told (w.alloc (.cells #[.int .i64 0, .int .i64 0] 26)).heap.size ((w.alloc (.cells #[.int .i64 0, .int .i64 0] 26)).alloc (parO s)) (Ppa.fragmentL s.data.toList) e w') := by
    constructor
    by_cases hl : 65536 < s.size
    · have hm : Ppa.fragmentL s.data.toList = ([], 3, 0) := Ppa.allM_long (by rw [size_len]; exact hl)
      rw [hm]
      exact all_long (k := 0) (s := s) _ (heap_alloc_new _ _) hl hs (by simp)
    · exact all_frag (par_new he1 (by omega))
  have HB := Kept.mk hb1
  have HV := Kept.mk V1
  generalize Ppa.fragmentL s.data.toList = M at CA
  obtain ⟨L, x, y⟩ := M
  rw [hz1] at CA
  have hmf : ∀ (fn : Fn) (first cap : Array Value) (w : World), (Instr.makeFunc fn first cap).run Tryz.prog w = .ok (.func fn first cap) w := fun _ _ _ _ => rfl
  clear he he1 hb1 V1 hz1
  go_enter Tryz.func7, Tryz.ntmps7
  go_wp2_with (go_at_call 22; refine CA.out.mono ?_; rintro e w3 ⟨hb3, A, c, rfl, hn⟩; have B3 := Kept.mk (((HB.out.alloc (by simp) (parO s))).trans (hb3.mono (Nat.le_succ _))); have V3 := (HV.out.below ((Below.refl _ _).alloc (Nat.le_refl _) (parO s))); have V4 : Fv w.heap.size 0 0 w3 := ⟨(hb3.block _ (Nat.lt_succ_self _)).trans V3.blk⟩; have N3 := Kept.mk hn; have v0 := V4.c0; have v1 := V4.c1; have z0 := V4.unf 0; have z1 := V4.unf 1; have KV := Kept.mk V4; clear hb3 hn V3)
  refine bodyPost_ret (v := .tuple #[.slice A L.length c, .agg #[.int .i64 x, .int .i64 y]]) (by simp [results, Tryz.results7, go_sem, *]) rfl ?_
  exact ⟨(B3.out.setCell (p := ⟨w.heap.size, 0, none⟩) (Nat.le_refl _) _).setCell (p := ⟨w.heap.size, 1, none⟩) (Nat.le_refl _) _, A, c, rfl, own_mono (KV.out.nds N3.out _ _) (Nat.le_succ _)⟩
end Go.Proofs.YtemfmidhekdekaaGreatDoor.Wps
namespace Go.Proofs.YtemfmidhekdekaaGreatDoor.Ppa
open Go Go.Lib Go.Proofs.YtemfmidhekdekaaGreatDoor.Ptr Go.Proofs.YtemfmidhekdekaaGreatDoor.Wps

def lens (l : List Nd) : Nat := (l.map fun x => x.2.1.length + x.2.2.1.length).sum
/-- how much text is told, and how much is left -/
def tot (s : St) (r : Bs) : Nat := lens s.nodes + s.text.length + 4 * r.length
theorem lens_app (l m : List Nd) : lens (l ++ m) = lens l + lens m := by simp [lens]
theorem lens_one (x : Nd) : lens [x] = x.2.1.length + x.2.2.1.length := by simp [lens]
theorem lens_mem : ∀ {l : List Nd} {x : Nd}, x ∈ l → x.2.1.length + x.2.2.1.length ≤ lens l
  | y :: l, x, h => by
    rw [show y :: l = [y] ++ l from rfl, lens_app, lens_one]
    rcases List.mem_cons.1 h with rfl | h
    · omega
    · have := lens_mem h
      omega
theorem flush_tot (s : St) (p : Int) (r : Bs) : tot (flush s p) r ≤ tot s r := by
  unfold flush
  split
  · exact Nat.le_refl _
  · simp only [tot, lens_app, lens_one, List.length_nil]
    omega
theorem add_tot (s : St) (n : Nd) (r : Bs) : tot (add s n) r ≤ tot s r + n.2.1.length + n.2.2.1.length := by
  unfold add
  split
  · simp only [tot, lens_app, lens_one]
    omega
  · have := flush_tot s n.2.2.2 r
    simp only [tot, lens_app, lens_one] at this ⊢
    omega
theorem valF_tot (q : UInt8) : ∀ (f : Nat) (acc r v t : Bs), valF q f acc r = some (.ok (v, t)) → v.length + 4 * t.length ≤ acc.length + 4 * r.length
  | 0, _, _, _, _, h => by cases h
  | f + 1, acc, [], v, t, h => by rw [valF] at h; cases h
  | f + 1, acc, x :: u, v, t, h => by
    rw [valF] at h
    simp only [List.length_cons]
    split at h
    · injection h with h
      injection h with h
      injection h with h1 h2
      subst h1 h2
      omega
    · split at h
      · cases h
      · split at h
        · cases hr : refM u with
          | ok p =>
            obtain ⟨n, t'⟩ := p
            rw [hr] at h
            have h1 := valF_tot q f _ t' v t h
            have h2 := (refM_suf hr).length_le
            have h3 := encode_le n
            rw [List.length_append] at h1
            omega
          | error t' => rw [hr] at h; cases h
        · split at h
          · have h1 := valF_tot q f _ _ v t h
            have h2 := (nlL_suf u).length_le
            simp only [List.length_append, List.length_cons, List.length_nil] at h1
            omega
          · split at h
            · have h1 := valF_tot q f _ _ v t h
              simp only [List.length_append, List.length_cons, List.length_nil] at h1
              omega
            · have h1 := valF_tot q f _ _ v t h
              simp only [List.length_append, List.length_cons, List.length_nil] at h1
              omega
theorem valM_tot {r v t : Bs} (h : valM r = .ok (v, t)) : v.length + 4 * t.length ≤ 4 * r.length := by
  cases r with
  | nil => cases h
  | cons x u =>
    have h : (if x = 34 ∨ x = 39 then (match valF x (u.length + 1) [] u with | some o => o | none => Except.error []) else Except.error (x :: u)) = Except.ok (v, t) := h
    split at h
    · cases hv : valF x (u.length + 1) [] u with
      | none => rw [hv] at h; cases h
      | some o =>
        rw [hv] at h
        dsimp only at h
        subst h
        have := valF_tot x _ _ _ v t hv
        simp only [List.length_nil, List.length_cons] at this ⊢
        omega
    · cases h
theorem instrM_tot {p : Int} {r r' : Bs} {s s' : St} (h : instrM p r s = .ok (r', s')) : tot s' r' ≤ tot s r := by
  unfold instrM at h
  cases hn : nameM r with
  | error r1 => rw [hn] at h; cases h
  | ok q =>
    obtain ⟨nm, r1⟩ := q
    rw [hn] at h
    dsimp only at h
    have a2 := nameM_lt hn
    split at h
    · cases h
    · cases r1 with
      | nil => cases h
      | cons x u =>
        dsimp only at h
        split at h
        · cases hu : untilR [63, 62] (blanksL (x :: u)) with
          | error r2 => rw [hu] at h; cases h
          | ok q2 =>
            obtain ⟨v, r2⟩ := q2
            rw [hu] at h
            injection h with h
            injection h with h1 h2
            subst h1 h2
            have b1 := (blanksL_suf (x :: u)).length_le
            have b2 := congrArg List.length (untilR_ok hu)
            have b3 := said_le v
            have b4 := add_tot s (6, nm, said v, p) r2
            simp only [List.length_append, List.length_cons, List.length_nil] at b2
            unfold tot at b4 ⊢
            dsimp only at b4
            omega
        · split at h
          · cases hu : mustL [63, 62] (x :: u) with
            | error r2 => rw [hu] at h; cases h
            | ok r2 =>
              rw [hu] at h
              injection h with h
              injection h with h1 h2
              subst h1 h2
              have b1 := (mustL_suf hu).length_le
              have b4 := add_tot s (6, nm, [], p) r2
              unfold tot at b4 ⊢
              simp only [List.length_nil] at b4
              omega
          · cases h
theorem commM_tot {p : Int} {r r' : Bs} {s s' : St} (h : commM p r s = .ok (r', s')) : tot s' r' ≤ tot s r := by
  unfold commM at h
  cases hn : mustL [45] r with
  | error r1 => rw [hn] at h; cases h
  | ok r1 =>
    rw [hn] at h
    dsimp only at h
    cases hu : untilR [45, 45] r1 with
    | error r2 => rw [hu] at h; cases h
    | ok q =>
      obtain ⟨v, r2⟩ := q
      rw [hu] at h
      dsimp only at h
      cases hm : mustL [62] r2 with
      | error r3 => rw [hm] at h; cases h
      | ok r3 =>
        rw [hm] at h
        injection h with h
        injection h with h1 h2
        subst h1 h2
        have a1 := (mustL_suf hn).length_le
        have b2 := congrArg List.length (untilR_ok hu)
        have c1 := (mustL_suf hm).length_le
        have b3 := said_le v
        have b4 := add_tot s (5, [], said v, p) r3
        simp only [List.length_append, List.length_cons, List.length_nil] at b2
        unfold tot at b4 ⊢
        simp only [List.length_nil] at b4
        omega
theorem attrM_tot {N q : Nat} {r r' : Bs} {s s' : St} (h : attrM N q r s = .ok (r', s')) : tot s' r' ≤ tot s r := by
  unfold attrM at h
  cases hn : nameM r with
  | error r1 => rw [hn] at h; cases h
  | ok q1 =>
    obtain ⟨nm, r1⟩ := q1
    rw [hn] at h
    dsimp only at h
    have a2 := nameM_lt hn
    cases hm : mustL [61] (blanksL r1) with
    | error r2 => rw [hm] at h; cases h
    | ok r2 =>
      rw [hm] at h
      dsimp only at h
      cases hv : valM (blanksL r2) with
      | error r3 => rw [hv] at h; cases h
      | ok q3 =>
        obtain ⟨v, r3⟩ := q3
        rw [hv] at h
        injection h with h
        injection h with h1 h2
        subst h1 h2
        have l1 := ((mustL_suf hm).trans (blanksL_suf r1)).length_le
        have l2 := (blanksL_suf r2).length_le
        have l3 := valM_tot hv
        have b5 := add_tot { s with twice := if s.twice < 0 ∧ ((s.nodes.drop (q + 1)).any fun o => o.2.1 == nm) = true then (N : Int) - r.length else s.twice } (3, nm, v, (q : Int)) r3
        unfold tot at b5 ⊢
        dsimp only at b5
        omega
theorem attrsF_tot {N q : Nat} : ∀ (f : Nat) (r : Bs) (s : St) (r' : Bs) (s' : St), attrsF N q f r s = some (.ok (r', s')) → tot s' r' ≤ tot s r
  | 0, r, s, r', s', h => by cases h
  | f + 1, [], s, r', s', h => by
    rw [attrsF] at h
    injection h with h
    injection h with h
    injection h with h1 h2
    subst h1 h2
    exact Nat.le_refl _
  | f + 1, x :: t, s, r', s', h => by
    rw [attrsF] at h
    split at h
    · have hb := (blanksL_suf (x :: t)).length_le
      generalize blanksL (x :: t) = z at h hb
      have key : tot s z ≤ tot s (x :: t) := by unfold tot; omega
      split at h
      · injection h with h
        injection h with h
        injection h with h1 h2
        subst h1 h2
        exact key
      · injection h with h
        injection h with h
        injection h with h1 h2
        subst h1 h2
        exact key
      · cases ha : attrM N q z s with
        | error r2 => rw [ha] at h; cases h
        | ok q2 =>
          obtain ⟨r2, s2⟩ := q2
          rw [ha] at h
          dsimp only at h
          have a1 := attrM_tot ha
          have a2 := attrsF_tot f r2 s2 r' s' h
          omega
    · injection h with h
      injection h with h
      injection h with h1 h2
      subst h1 h2
      exact Nat.le_refl _
theorem elemS_tot (N : Nat) (p : Int) (d : Nat) (r nm : Bs) (s : St) (r' : Bs) : tot (elemS N p d r nm s) r' ≤ tot s r' + nm.length := by
  have := add_tot { s with deep := if 60 < d ∧ s.deep < 0 then (N : Int) - r.length - 1 else s.deep } (2, nm, [], p) r'
  unfold elemS
  unfold tot at this ⊢
  simp only [List.length_nil] at this
  omega
structure Kt (N f : Nat) : Prop where
  cont : ∀ (p : Int) (d run : Nat) (r : Bs) (s : St) (r' : Bs) (s' : St), contF N f p d run r s = some (.ok (r', s')) → tot s' r' ≤ tot s r
  mark : ∀ (p : Int) (d : Nat) (r : Bs) (s : St) (r' : Bs) (s' : St), markF N f p d r s = some (.ok (r', s')) → tot s' r' ≤ tot s r
  elem : ∀ (p : Int) (d : Nat) (r : Bs) (s : St) (r' : Bs) (s' : St), elemF N f p d r s = some (.ok (r', s')) → tot s' r' ≤ tot s r
theorem kt_cont {N f : Nat} (ih : Kt N f) (p : Int) (d run : Nat) (r : Bs) (s : St) (r' : Bs) (s' : St) (h : contF N (f + 1) p d run r s = some (.ok (r', s'))) : tot s' r' ≤ tot s r := by
  unfold contF at h
  cases r with
  | nil =>
    dsimp only at h
    split at h
    · injection h with h
      injection h with h
      injection h with h1 h2
      subst h1 h2
      exact flush_tot s p []
    · cases h
  | cons x t =>
    dsimp only at h
    split at h
    · cases h
    · split at h
      · split at h
        · rename_i hh
          injection h with h
          injection h with h
          injection h with h1 h2
          subst h1 h2
          have h1 := flush_tot s p t.tail
          have h2 : t.tail.length ≤ t.length := by rw [List.length_tail]; omega
          unfold tot at h1 ⊢
          simp only [List.length_cons]
          omega
        · cases hm : markF N f p d t s with
          | none => rw [hm] at h; cases h
          | some o =>
            rw [hm] at h
            cases o with
            | error r1 => cases h
            | ok q =>
              obtain ⟨r1, s1⟩ := q
              have h1 := ih.mark p d t s r1 s1 hm
              have h2 := ih.cont p d 0 r1 s1 r' s' h
              unfold tot at h1 h2 ⊢
              simp only [List.length_cons]
              omega
      · split at h
        · cases hr : refM t with
          | error r1 => rw [hr] at h; cases h
          | ok q =>
            obtain ⟨n, r1⟩ := q
            rw [hr] at h
            have a2 := (refM_suf hr).length_le
            have a3 := encode_le n
            have h2 := ih.cont p d 0 r1 _ r' s' h
            unfold tot at h2 ⊢
            simp only [List.length_append, List.length_cons] at h2 ⊢
            omega
        · split at h
          · have a2 := (nlL_suf t).length_le
            have h2 := ih.cont p d 0 _ _ r' s' h
            unfold tot at h2 ⊢
            simp only [List.length_append, List.length_cons, List.length_nil] at h2 ⊢
            omega
          · have h2 := ih.cont p d _ t _ r' s' h
            unfold tot at h2 ⊢
            simp only [List.length_append, List.length_cons, List.length_nil] at h2 ⊢
            omega
theorem kt_mark {N f : Nat} (ih : Kt N f) (p : Int) (d : Nat) (r : Bs) (s : St) (r' : Bs) (s' : St) (h : markF N (f + 1) p d r s = some (.ok (r', s'))) : tot s' r' ≤ tot s r := by
  unfold markF at h
  split at h
  · injection h with h
    have h1 := instrM_tot h
    unfold tot at h1 ⊢
    simp only [List.length_cons]
    omega
  · injection h with h
    have h1 := commM_tot h
    unfold tot at h1 ⊢
    simp only [List.length_cons]
    omega
  · rename_i t _
    injection h with h
    cases hm : mustL [91, 67, 68, 65, 84, 65, 91] t with
    | error r1 => rw [hm] at h; cases h
    | ok r1 =>
      rw [hm] at h
      dsimp only at h
      cases hu : untilR [93, 93, 62] r1 with
      | error r2 => rw [hu] at h; cases h
      | ok q =>
        obtain ⟨v, r2⟩ := q
        rw [hu] at h
        injection h with h
        injection h with h1 h2
        subst h1 h2
        have a1 := (mustL_suf hm).length_le
        have b2 := congrArg List.length (untilR_ok hu)
        have hs := said_le v
        simp only [List.length_append, List.length_cons, List.length_nil] at b2
        simp only [tot, List.length_append, List.length_cons]
        omega
  · exact ih.elem p (d + 1) r s r' s' h
theorem kt_elem {N f : Nat} (ih : Kt N f) (p : Int) (d : Nat) (r : Bs) (s : St) (r' : Bs) (s' : St) (h : elemF N (f + 1) p d r s = some (.ok (r', s'))) : tot s' r' ≤ tot s r := by
  rw [elemF_eq] at h
  cases hn : nameM r with
  | error r1 => rw [hn] at h; cases h
  | ok q =>
    obtain ⟨nm, r1⟩ := q
    rw [hn] at h
    dsimp only at h
    have a2 := nameM_lt hn
    have a4 := elemS_tot N p d r nm s r1
    have a5 : tot s r1 + nm.length ≤ tot s r := by unfold tot; omega
    generalize elemS N p d r nm s = s1 at h a4
    split at h
    · cases h
    · cases h
    · rename_i r2 s2 hat
      have b2 := attrsF_tot _ _ _ _ _ hat
      split at h
      · rename_i t
        injection h with h
        cases hm : mustL [62] t with
        | error r3 => rw [hm] at h; cases h
        | ok r3 =>
          rw [hm] at h
          injection h with h
          injection h with h1 h2
          subst h1 h2
          have c1 := (mustL_suf hm).length_le
          have c3 : tot s2 r3 ≤ tot s2 (47 :: t) := by unfold tot; simp only [List.length_cons]; omega
          omega
      · cases hm : mustL [62] r2 with
        | error r3 => rw [hm] at h; cases h
        | ok r3 =>
          rw [hm] at h
          dsimp only at h
          have c1 := (mustL_suf hm).length_le
          have c3 : tot s2 r3 ≤ tot s2 r2 := by unfold tot; omega
          split at h
          · cases h
          · cases h
          · rename_i r4 s4 hco
            have d2 := ih.cont _ _ _ _ _ _ _ hco
            injection h with h
            cases hcl : closeM nm r4 with
            | error r6 => rw [hcl] at h; cases h
            | ok r6 =>
              rw [hcl] at h
              injection h with h
              injection h with h1 h2
              subst h1 h2
              have e1 := (closeM_ok hcl).1.length_le
              have e3 : tot s4 r6 ≤ tot s4 r4 := by unfold tot; omega
              omega
theorem kt_all (N : Nat) : ∀ f, Kt N f
  | 0 => ⟨fun p d run r s r' s' h => (by unfold contF at h; cases h), fun p d r s r' s' h => (by unfold markF at h; cases h), fun p d r s r' s' h => (by unfold elemF at h; cases h)⟩
  | f + 1 => ⟨kt_cont (kt_all N f), kt_mark (kt_all N f), kt_elem (kt_all N f)⟩
theorem docF_tot {N : Nat} : ∀ (f : Nat) (done : Bool) (r : Bs) (s s' : St), docF N f done r s = some (.ok s') → lens s'.nodes ≤ tot s r
  | 0, done, r, s, s', h => by rw [docF] at h; cases h
  | f + 1, done, r, s, s', h => by
    have hb := (blanksL_suf r).length_le
    by_cases h0 : blanksL r = []
    · rw [docF_nil h0] at h
      split at h
      · injection h with h
        injection h with h
        subst h
        unfold tot
        omega
      · cases h
    · by_cases h60 : (blanksL r).head? = some 60
      · obtain ⟨t, ht⟩ := head_cons h60
        rw [ht] at hb
        simp only [List.length_cons] at hb
        by_cases h63 : t.head? = some 63
        · obtain ⟨u, rfl⟩ := head_cons h63
          rw [docF_pi ht] at h
          simp only [List.length_cons] at hb
          cases hi : instrM 0 u s with
          | error r' => rw [hi] at h; cases h
          | ok q =>
            obtain ⟨r', s1⟩ := q
            rw [hi] at h
            have h1 := instrM_tot hi
            have h2 := docF_tot f done r' s1 s' h
            unfold tot at h1 h2 ⊢
            omega
        · by_cases h33 : t.head? = some 33
          · obtain ⟨u, rfl⟩ := head_cons h33
            rw [docF_bang ht] at h
            simp only [List.length_cons] at hb
            cases hm : mustL [45] u with
            | error r' => rw [hm] at h; cases h
            | ok r1 =>
              rw [hm] at h
              dsimp only at h
              have l1 := (mustL_suf hm).length_le
              cases hi : commM 0 r1 s with
              | error r' => rw [hi] at h; cases h
              | ok q =>
                obtain ⟨r', s1⟩ := q
                rw [hi] at h
                have h1 := commM_tot hi
                have h2 := docF_tot f done r' s1 s' h
                unfold tot at h1 h2 ⊢
                omega
          · rw [docF_elem ht h63 h33] at h
            split at h
            · cases h
            · cases ho : elemF N f 0 1 t s with
              | none => rw [ho] at h; cases h
              | some o =>
                rw [ho] at h
                cases o with
                | error r' => cases h
                | ok q =>
                  obtain ⟨r', s1⟩ := q
                  have h1 := (kt_all N f).elem 0 1 t s r' s1 ho
                  have h2 := docF_tot f true r' s1 s' h
                  unfold tot at h1 h2 ⊢
                  omega
      · rw [docF_bad h0 h60] at h
        cases h
theorem docM_lens {N f : Nat} {l : Bs} {s : St} (h : docM N f l = some (.ok s)) : lens s.nodes ≤ 4 * l.length := by
  rw [docM_eq] at h
  split at h
  · cases hd : declM (l.drop 5) with
    | error r => rw [hd] at h; cases h
    | ok r =>
      rw [hd] at h
      have h1 := (declM_ok hd).1.length_le
      rw [List.length_drop] at h1
      have h2 := docF_tot f false r stR s h
      unfold tot stR lens at h2
      simp at h2
      unfold lens
      omega
  · have h2 := docF_tot f false l stR s h
    unfold tot stR lens at h2
    simp at h2
    unfold lens
    omega
theorem fragM_lens {N f : Nat} {l : Bs} {s : St} (h : fragM N f l = some (.ok s)) : lens s.nodes ≤ 4 * l.length := by
  unfold fragM at h
  cases hc : contF N f (-1) 0 0 l st0 with
  | none => rw [hc] at h; cases h
  | some o =>
    rw [hc] at h
    cases o with
    | error r => cases h
    | ok q =>
      obtain ⟨r, s1⟩ := q
      injection h with h
      injection h with h
      subst h
      have h2 := (kt_all N f).cont (-1) 0 0 l st0 r s1 hc
      unfold tot st0 lens at h2
      simp at h2
      unfold lens
      omega
theorem allM_cases {way : Nat → Nat → Bs → Option (Except Bs St)} {l : Bs} {L : List Nd} {x y : Int} (h : allM way l = (L, x, y)) : L = [] ∨ ∃ s, way l.length (fuel l.length) l = some (.ok s) ∧ L = s.nodes ∧ L.length ≤ 16384 := by
  unfold allM at h
  split at h
  · injection h with h; exact .inl h.symm
  · split at h
    · injection h with h; exact .inl h.symm
    · split at h
      · rename_i o ho
        cases o with
        | error r => injection h with h; exact .inl h.symm
        | ok s =>
          unfold toldM at h
          dsimp only at h
          split at h
          · injection h with h; exact .inl h.symm
          · split at h
            · injection h with h; exact .inl h.symm
            · split at h
              · injection h with h; exact .inl h.symm
              · rename_i hn
                injection h with h
                exact .inr ⟨s, ho, h.symm, by rw [← h]; omega⟩
      · injection h with h; exact .inl h.symm
theorem document_lens {l : Bs} {L : List Nd} {x y : Int} (h : documentL l = (L, x, y)) : L.length ≤ 16384 ∧ lens L ≤ 4 * l.length := by
  rcases allM_cases h with rfl | ⟨s, h1, rfl, h3⟩
  · exact ⟨by simp, by simp [lens]⟩
  · exact ⟨h3, docM_lens h1⟩
theorem fragment_lens {l : Bs} {L : List Nd} {x y : Int} (h : fragmentL l = (L, x, y)) : L.length ≤ 16384 ∧ lens L ≤ 4 * l.length := by
  rcases allM_cases h with rfl | ⟨s, h1, rfl, h3⟩
  · exact ⟨by simp, by simp [lens]⟩
  · exact ⟨h3, fragM_lens h1⟩
end Go.Proofs.YtemfmidhekdekaaGreatDoor.Ppa
namespace Go.Proofs.YtemfmidhekdekaaGreatDoor.Wps
open Go Go.RowKit Go.Proofs.YtemfmidhekdekaaGreatDoor.Kb Go.Proofs.YtemfmidhekdekaaGreatDoor.Wch Go.Proofs.YtemfmidhekdekaaGreatDoor.Wtr Go.Proofs.YtemfmidhekdekaaGreatDoor.Flt

theorem bel_drewN {B : Nat} {a w : World} (h : Below B a w) (n : Nat) : Below B a (w.drewN n) := h.trans ⟨rfl, rfl, rfl, Nat.le_refl _, fun _ _ => rfl⟩
theorem eql_nd (k : Int) (s t : ByteArray) (p : Int) (w : World) : (binOp .eql 32 (.agg #[.int .u8 k, .string s, .string t, .int .i64 p]) (.agg #[.int .u8 k, .string s, .string t, .int .i64 p])).run Tryz.prog w = .ok (.bool true) w := by
  have u0 := Tryz.underlying30
  have u1 := Tryz.underlying9
  have u3 := Tryz.underlying3
  have a0 := Tryz.isAgg30
  have a1 := Tryz.isAgg9
  have a3 := Tryz.isAgg3
  have hS : Tryz.prog.underlying 32 = some (.struct (Tryz.prog.fieldsOf 32)) := by kernel_rfl
  rw [run_eql_struct, show (10000 : Nat) = 9999 + 1 from rfl, run_equalIn_agg w 9999 32 _ _ hS (by kernel_rfl)]
  simp only [Program.fieldsOf, Tryz.underlying32]
  go_simp
  try simp
theorem neq_nd (k : Int) (s t : ByteArray) (p : Int) (w : World) : (binOp .neq 32 (.agg #[.int .u8 k, .string s, .string t, .int .i64 p]) (.agg #[.int .u8 k, .string s, .string t, .int .i64 p])).run Tryz.prog w = .ok (.bool false) w := by
  have h := eql_nd k s t p w
  rw [run_eql_struct] at h
  rw [run_neq_struct]
  revert h
  cases (Op.equalIn 10000 32 (.agg #[.int .u8 k, .string s, .string t, .int .i64 p]) (.agg #[.int .u8 k, .string s, .string t, .int .i64 p])).run Tryz.prog w with
  | ok b w' => intro h; simp at h ⊢; exact ⟨by simpa using h.1, h.2⟩
  | halt x w' => intro h; simp at h
set_option maxRecDepth 100000 in
set_option maxHeartbeats 1000000 in
theorem same_rd (L : List Ptr.Nd) (A1 A2 : Option Addr) (c1 c2 : Nat) (w : World) (h1 : RdN w A1 L) (h2 : RdN w A2 L) (hl : L.length ≤ 1000000) :
    Calls Tryz.prog 16 #[.slice A1 L.length c1, .slice A2 L.length c2] w fun e w' => e = .returned (.bool true) ∧ Below w.heap.size w w' := by
  have H1 := Kept.mk h1
  have H2 := Kept.mk h2
  clear h1 h2
  go_enter Tryz.func16, Tryz.ntmps16
  go_wp2
  go_loopw [5] (fun i wx => ∃ k : Nat, k ≤ L.length ∧ i = .int .i64 (k : Int) ∧ ∃ d, wx = w.drewN d) (fun i _ => L.length - (intOf i).toNat)
  case atStart => exact ⟨0, by omega, rfl, 0, rfl⟩
  case round =>
    obtain ⟨k, hk, rfl, d, rfl⟩ := hrel
    have k0 : (0 : Int) ≤ (k : Int) := by omega
    by_cases hlt : k < L.length
    · have k1 : (k : Int) < (L.length : Int) := by omega
      obtain ⟨g1, o1, rfl, x0, x1, x2, x3⟩ := H1.out.at_ hlt
      obtain ⟨g2, o2, rfl, y0, y1, y2, y3⟩ := H2.out.at_ hlt
      simp only at x0 x1 x2 x3 y0 y1 y2 y3
      have hE := neq_nd (Ptr.kin L k) ⟨(Ptr.nam L k).toArray⟩ ⟨(Ptr.val L k).toArray⟩ (Ptr.par L k)
      go_wp2
      go_quiet (fail)
      go_wp2
      go_roundw
      case rel => exact ⟨k + 1, by omega, by go_num, d + nq, rfl⟩
      case measure => simp [intOf]; omega
    · obtain rfl : k = L.length := by omega
      go_wp2
      go_ret
      exact ⟨rfl, bel_drewN (Below.refl _ _) _⟩
theorem eql_fault (x y : Int) (w : World) : (binOp .eql 26 (.agg #[.int .i64 x, .int .i64 y]) (.agg #[.int .i64 x, .int .i64 y])).run Tryz.prog w = .ok (.bool true) w := by
  have u0 := Tryz.underlying24
  have u1 := Tryz.underlying3
  have a0 := Tryz.isAgg24
  have a1 := Tryz.isAgg3
  have hS : Tryz.prog.underlying 26 = some (.struct (Tryz.prog.fieldsOf 26)) := by kernel_rfl
  rw [run_eql_struct, show (10000 : Nat) = 9999 + 1 from rfl, run_equalIn_agg w 9999 26 _ _ hS (by kernel_rfl)]
  simp only [Program.fieldsOf, Tryz.underlying26]
  go_simp
  try simp
def exN : List Ptr.Nd := [(1, [], [], -1), (2, [97], [], 0), (3, [120], [49, 60], 1), (4, [], [116], 1), (5, [], [99], 1), (2, [98], [], 1), (4, [], [117], 1)]
theorem exN_told : Ppa.documentL [60, 97, 32, 120, 61, 39, 49, 38, 108, 116, 59, 39, 62, 116, 60, 33, 45, 45, 99, 45, 45, 62, 60, 98, 47, 62, 38, 35, 120, 55, 53, 59, 60, 47, 97, 62] = (exN, 0, 0) := by kernel_rfl
theorem ex2_told : Ppa.documentL [60, 97, 62, 60, 47, 98, 62] = ([], 130, 5) := by kernel_rfl
theorem ex3_told : Ppa.fragmentL [120, 60, 97, 47, 62, 121] = ([(4, [], [120], -1), (2, [97], [], -1), (4, [], [121], -1)], 0, 0) := by kernel_rfl
theorem Fv.make (w : World) (x y : Int) : Fv w.heap.size x y (w.alloc (.cells #[.int .i64 x, .int .i64 y] 26)) := ⟨heap_alloc_new _ _⟩
theorem doc_call (l : Ppa.Bs) (L : List Ptr.Nd) (x y : Int) (k : Nat) (hm : Ppa.documentL l = (L, x, y)) (hk : L.length = k) (hl : l.length ≤ 1000000) (w : World) (he : Ev w) : Calls Tryz.prog 19 #[.string ⟨l.toArray⟩] w fun e w' => Below w.heap.size w w' ∧ ∃ A c, e = .returned (.tuple #[.slice A k c, .agg #[.int .i64 x, .int .i64 y]]) ∧ w'.ownsRow w.heap.size 32 4 (.slice A k c) k (ndsC L) := by
  subst hk
  have h := document_any ⟨l.toArray⟩ w he (by rw [Lib.size_mk]; exact hl)
  rw [show Ppa.documentL (⟨l.toArray⟩ : ByteArray).data.toList = (L, x, y) from hm] at h
  exact h
theorem frag_call (l : Ppa.Bs) (L : List Ptr.Nd) (x y : Int) (k : Nat) (hm : Ppa.fragmentL l = (L, x, y)) (hk : L.length = k) (hl : l.length ≤ 1000000) (w : World) (he : Ev w) : Calls Tryz.prog 7 #[.string ⟨l.toArray⟩] w fun e w' => Below w.heap.size w w' ∧ ∃ A c, e = .returned (.tuple #[.slice A k c, .agg #[.int .i64 x, .int .i64 y]]) ∧ w'.ownsRow w.heap.size 32 4 (.slice A k c) k (ndsC L) := by
  subst hk
  have h := fragment_any ⟨l.toArray⟩ w he (by rw [Lib.size_mk]; exact hl)
  rw [show Ppa.fragmentL (⟨l.toArray⟩ : ByteArray).data.toList = (L, x, y) from hm] at h
  exact h
theorem same_rd7 (A1 A2 : Option Addr) (c1 : Nat) (w : World) {B : Nat} (h1 : w.ownsRow B 32 4 (.slice A1 7 c1) 7 (ndsC exN)) (h2 : RdN w A2 exN) : Calls Tryz.prog 16 #[.slice A1 7 c1, .slice A2 7 7] w fun e w' => e = .returned (.bool true) ∧ Below w.heap.size w w' := same_rd exN A1 A2 c1 7 w (rdn_of_own h1) h2 (by decide)
theorem below_step {w w1 w2 : World} (h : Below w.heap.size w w1) (h' : Below w1.heap.size w1 w2) : Below w.heap.size w w2 := h.trans (h'.mono h.size)
end Go.Proofs.YtemfmidhekdekaaGreatDoor.Wps
