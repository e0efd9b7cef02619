/- The program's parser: try: what gives up is told. -/
import Derived.Test.YtlemdhfekdiaeaaGreatDoorParseAC
import Derived.Defers
import Derived.Recover
namespace Go.Proofs.YtlemdhfekdiaeaaGreatDoor.Wps
open Go Go.RowKit Go.Proofs.YtlemdhfekdiaeaaGreatDoor.Kb Go.Proofs.YtlemdhfekdiaeaaGreatDoor.Wch Go.Proofs.YtlemdhfekdiaeaaGreatDoor.Emk

theorem as_broken (v : Value) (w : World) : (Instr.typeAssert (.iface 90 v) 20 90 false).run Tryz.prog w = .ok v w := by kernel_rfl
theorem catch_p (p : Addr) (x k : Int) (w : World) (hc : w.cell? p = some (.int .i64 x)) (hz : w.frozen? p = false) :
    CallsD Tryz.prog 71 #[.pointer (some p)] (.panicking ({ v := .iface 90 (.int .i64 k), recovered := false } :: [])) w fun e u' w' =>
      e = .returned (.tuple #[]) ∧ u' = .panicking ({ v := .iface 90 (.int .i64 k), recovered := true } :: []) ∧ w' = w.setCell p (.int .i64 k) := by
  refine callsD_of_wpS Tryz.func71 rfl fun c₀ cs hu => ?_
  apply wpS_seq
  apply wpS_region
  simp [wpOpsS, go_sem, recoverD, hu, Tryz.ntmps71, Exit.thenS]
  apply wpS_seq
  apply wpS_region
  simp [wpOpsS, go_sem, Exit.thenS]
  refine wpS_cond (t := true) (by simp [Act.eval, Array.replicate]) ?_
  simp only [if_true]
  apply wpS_region
  simp [wpOpsS, go_sem, hc, hz, bodyPostS, results, Tryz.results71, as_broken]
theorem catch_i (p : Addr) (w : World) :
    CallsD Tryz.prog 71 #[.pointer (some p)] .returning w fun e u' w' => e = .returned (.tuple #[]) ∧ u' = .returning ∧ w' = w := by
  refine callsD_of_wpS Tryz.func71 rfl fun c₀ cs hu => ?_
  apply wpS_seq
  apply wpS_region
  simp [wpOpsS, go_sem, recoverD, hu, Tryz.ntmps71, Exit.thenS]
  apply wpS_seq
  apply wpS_region
  simp [wpOpsS, go_sem, Exit.thenS]
  refine wpS_cond (t := false) (by simp [Act.eval, Array.replicate]) ?_
  simp only [Bool.false_eq_true, if_false]
  refine wpS_of_wp (wp_skip ?_)
  cases c₀
  simp_all [bodyPostS, results, Tryz.results71]
theorem Bel.setNew {B b g : Nat} {w w2 : World} (h : Bel B b w w2) (hg : w.heap.size ≤ g) (hB : B ≤ g) (i : Nat) (u : Value) : Bel B b w (w2.setCell ⟨g, i, none⟩ u) :=
  ⟨h.lo.setCell (p := ⟨g, i, none⟩) hB u, fun k cs T h1 h2 h3 h4 => (Below.heap_setCell _ _ _ _ (by have := (Array.getElem?_eq_some_iff.1 h4).1; simp; omega)).trans (h.far k cs T h1 h2 h3 h4)⟩
/-- what try tells -/
def Tried (B b : Nat) (s : ByteArray) (w : World) (o : Except Ppa.Bs Ppa.St) (e : Ending) (w' : World) : Prop :=
  Bel B b w w' ∧ match o with
      | .ok st => e = .returned (.int .i64 (-1)) ∧ ∃ r, Ps B b s st r w'
      | .error r => e = .returned (.int .i64 ((s.size - r.length : Nat) : Int)) ∧ r.length ≤ s.size
theorem Ps.keepInt {B b g : Nat} {s : ByteArray} {st : Ppa.St} {r : Ppa.Bs} {w : World} {cs : Array Value} (h : Ps B b s st r w) (hg : w.heap[g]? = some (.cells cs 3 (0, 0))) (hB : B ≤ g) (i : Nat) (u : Value) : Ps B b s st r (w.setCell ⟨g, i, none⟩ u) := by
  obtain ⟨A, c, p, v, X⟩ := h.px
  have hgb : b ≠ g := by
    intro e
    subst e
    have h1 := X.blk
    rw [hg] at h1
    injection h1 with h1
    injection h1 with _ h1 _
    exact absurd h1 (by decide)
  have hX : Px B b s st (s.size - r.length) A c p v (w.setCell ⟨g, i, none⟩ u) := ⟨X.known, (Below.heap_setCell _ _ _ _ hgb).trans X.blk, Flt.own_other X.buf (own_block_ne hg (by decide) X.buf), Flt.own_other X.nds (nodes_ne hg (by decide) X.nds)⟩
  exact hX.ps h.suf (h.ev.below ((Below.refl B w).setCell (p := ⟨g, i, none⟩) hB u)) h.le h.small
set_option maxRecDepth 100000 in
set_option maxHeartbeats 2000000 in
theorem try_doc {B b F : Nat} {s : ByteArray} {w : World} (h : Ps B b s Ppa.st0 s.data.toList w) (ht : Pch.textsL s.data.toList = true) {o : Except Ppa.Bs Ppa.St} (he : Ppa.docM s.size F s.data.toList = some o) :
    Calls Tryz.prog 34 #[.func (.func 20) #[.pointer (some ⟨b, 0, none⟩)] #[]] w fun e w' => Tried B b s w o e w' := by
  have hmf : ∀ (fn : Fn) (first cap : Array Value) (w : World), (Instr.makeFunc fn first cap).run Tryz.prog w = .ok (.func fn first cap) w := fun _ _ _ _ => rfl
  have hb1 : Below w.heap.size w (w.alloc (.cells #[.int .i64 0] 3)) := (Below.refl _ _).alloc (Nat.le_refl _) _
  have H1 := h.below hb1
  have B1 := Kept.mk (Bel.of (b := b) hb1 h.hB)
  have hgb : w.heap.size ≠ b := by have := h.lt; omega
  have hBg := h.hB
  have hblk : (w.alloc (.cells #[.int .i64 0] 3)).heap[w.heap.size]? = some (.cells #[.int .i64 0] 3 (0, 0)) := heap_alloc_new _ _
  have HB := Kept.mk hblk
  have CD := Kept.mk (document_s H1 ht he)
  clear hb1 H1 h he hblk
  cases o with
  | ok st =>
    go_enter_defers Tryz.func34, Tryz.ntmps34
    go_wp2_with (go_at_call 20; refine CD.out.mono ?_; rintro e w2 ⟨hb2, rfl, r2, H2⟩; have hg2 := hb2.far _ _ _ hgb (by decide) (by decide) HB.out; have c2 : w2.cell? ⟨w.heap.size, 0, none⟩ = some (.int .i64 0) := (by rw [cell_of_row w2 _ _ _ _ _ hg2]; rfl); have f2 : w2.frozen? ⟨w.heap.size, 0, none⟩ = false := Joins.unfrozen_of_block hg2 _; have B2 := Kept.mk (B1.out.trans hb2); have G2 := Kept.mk hg2; clear hb2 hg2)
    refine leaves_cons (f := 71) (args := #[.pointer (some ⟨w.heap.size, 0, none⟩)]) (by simp) (by simp [go_sem]) ?_
    refine (catch_i ⟨w.heap.size, 0, none⟩ _).mono ?_
    rintro e u' w'' ⟨rfl, rfl, rfl⟩
    have c3 : (w2.setCell ⟨w.heap.size, 0, none⟩ (.int .i64 (-1))).cell? ⟨w.heap.size, 0, none⟩ = some (.int .i64 (-1)) := by
      have h1 : (w2.setCell ⟨w.heap.size, 0, none⟩ (.int .i64 (-1))).heap[w.heap.size]? = some (.cells #[.int .i64 (-1)] 3 (0, 0)) := by rw [Joins.block_setCell G2.out]; rfl
      rw [cell_of_row _ _ _ _ _ _ h1]
      rfl
    have HT : Tried B b s w (.ok st) (.returned (.int .i64 (-1))) (w2.setCell ⟨w.heap.size, 0, none⟩ (.int .i64 (-1))) := ⟨B2.out.setNew (Nat.le_refl _) hBg 0 _, rfl, r2, H2.keepInt G2.out hBg 0 _⟩
    simp [Leaves, settle, results, Tryz.results34, go_sem, c3]
    exact HT
  | error r1 =>
    go_enter_defers Tryz.func34, Tryz.ntmps34
    go_wp2_with (go_at_call 20; refine CD.out.mono ?_; rintro e w2 ⟨hb2, rfl, hl2⟩; have hg2 := hb2.far _ _ _ hgb (by decide) (by decide) HB.out; have c2 : w2.cell? ⟨w.heap.size, 0, none⟩ = some (.int .i64 0) := (by rw [cell_of_row w2 _ _ _ _ _ hg2]; rfl); have f2 : w2.frozen? ⟨w.heap.size, 0, none⟩ = false := Joins.unfrozen_of_block hg2 _; have B2 := Kept.mk (B1.out.trans hb2); have G2 := Kept.mk hg2; clear hb2 hg2)
    refine leaves_cons (f := 71) (args := #[.pointer (some ⟨w.heap.size, 0, none⟩)]) (by simp) (by simp [go_sem]) ?_
    refine (catch_p ⟨w.heap.size, 0, none⟩ 0 ((s.size - r1.length : Nat) : Int) _ c2 f2).mono ?_
    rintro e u' w'' ⟨rfl, rfl, rfl⟩
    have c3 : (w2.setCell ⟨w.heap.size, 0, none⟩ (.int .i64 ((s.size - r1.length : Nat) : Int))).cell? ⟨w.heap.size, 0, none⟩ = some (.int .i64 ((s.size - r1.length : Nat) : Int)) := by
      have h1 : (w2.setCell ⟨w.heap.size, 0, none⟩ (.int .i64 ((s.size - r1.length : Nat) : Int))).heap[w.heap.size]? = some (.cells #[.int .i64 ((s.size - r1.length : Nat) : Int)] 3 (0, 0)) := by rw [Joins.block_setCell G2.out]; rfl
      rw [cell_of_row _ _ _ _ _ _ h1]
      rfl
    have HT : Tried B b s w (.error r1) (.returned (.int .i64 ((s.size - r1.length : Nat) : Int))) (w2.setCell ⟨w.heap.size, 0, none⟩ (.int .i64 ((s.size - r1.length : Nat) : Int))) := ⟨B2.out.setNew (Nat.le_refl _) hBg 0 _, rfl, hl2⟩
    simp [Leaves, settle, results, Tryz.results34, go_sem, c3]
    exact HT
set_option maxRecDepth 100000 in
set_option maxHeartbeats 2000000 in
theorem try_frag {B b F : Nat} {s : ByteArray} {w : World} (h : Ps B b s Ppa.st0 s.data.toList w) (ht : Pch.textsL s.data.toList = true) {o : Except Ppa.Bs Ppa.St} (he : Ppa.fragM s.size F s.data.toList = some o) :
    Calls Tryz.prog 34 #[.func (.func 24) #[.pointer (some ⟨b, 0, none⟩)] #[]] w fun e w' => Tried B b s w o e w' := by
  have hmf : ∀ (fn : Fn) (first cap : Array Value) (w : World), (Instr.makeFunc fn first cap).run Tryz.prog w = .ok (.func fn first cap) w := fun _ _ _ _ => rfl
  have hb1 : Below w.heap.size w (w.alloc (.cells #[.int .i64 0] 3)) := (Below.refl _ _).alloc (Nat.le_refl _) _
  have H1 := h.below hb1
  have B1 := Kept.mk (Bel.of (b := b) hb1 h.hB)
  have hgb : w.heap.size ≠ b := by have := h.lt; omega
  have hBg := h.hB
  have hblk : (w.alloc (.cells #[.int .i64 0] 3)).heap[w.heap.size]? = some (.cells #[.int .i64 0] 3 (0, 0)) := heap_alloc_new _ _
  have HB := Kept.mk hblk
  have CD := Kept.mk (fragment_s H1 ht he)
  clear hb1 H1 h he hblk
  cases o with
  | ok st =>
    go_enter_defers Tryz.func34, Tryz.ntmps34
    go_wp2_with (go_at_call 24; refine CD.out.mono ?_; rintro e w2 ⟨hb2, rfl, r2, H2⟩; have hg2 := hb2.far _ _ _ hgb (by decide) (by decide) HB.out; have c2 : w2.cell? ⟨w.heap.size, 0, none⟩ = some (.int .i64 0) := (by rw [cell_of_row w2 _ _ _ _ _ hg2]; rfl); have f2 : w2.frozen? ⟨w.heap.size, 0, none⟩ = false := Joins.unfrozen_of_block hg2 _; have B2 := Kept.mk (B1.out.trans hb2); have G2 := Kept.mk hg2; clear hb2 hg2)
    refine leaves_cons (f := 71) (args := #[.pointer (some ⟨w.heap.size, 0, none⟩)]) (by simp) (by simp [go_sem]) ?_
    refine (catch_i ⟨w.heap.size, 0, none⟩ _).mono ?_
    rintro e u' w'' ⟨rfl, rfl, rfl⟩
    have c3 : (w2.setCell ⟨w.heap.size, 0, none⟩ (.int .i64 (-1))).cell? ⟨w.heap.size, 0, none⟩ = some (.int .i64 (-1)) := by
      have h1 : (w2.setCell ⟨w.heap.size, 0, none⟩ (.int .i64 (-1))).heap[w.heap.size]? = some (.cells #[.int .i64 (-1)] 3 (0, 0)) := by rw [Joins.block_setCell G2.out]; rfl
      rw [cell_of_row _ _ _ _ _ _ h1]
      rfl
    have HT : Tried B b s w (.ok st) (.returned (.int .i64 (-1))) (w2.setCell ⟨w.heap.size, 0, none⟩ (.int .i64 (-1))) := ⟨B2.out.setNew (Nat.le_refl _) hBg 0 _, rfl, r2, H2.keepInt G2.out hBg 0 _⟩
    simp [Leaves, settle, results, Tryz.results34, go_sem, c3]
    exact HT
  | error r1 =>
    go_enter_defers Tryz.func34, Tryz.ntmps34
    go_wp2_with (go_at_call 24; refine CD.out.mono ?_; rintro e w2 ⟨hb2, rfl, hl2⟩; have hg2 := hb2.far _ _ _ hgb (by decide) (by decide) HB.out; have c2 : w2.cell? ⟨w.heap.size, 0, none⟩ = some (.int .i64 0) := (by rw [cell_of_row w2 _ _ _ _ _ hg2]; rfl); have f2 : w2.frozen? ⟨w.heap.size, 0, none⟩ = false := Joins.unfrozen_of_block hg2 _; have B2 := Kept.mk (B1.out.trans hb2); have G2 := Kept.mk hg2; clear hb2 hg2)
    refine leaves_cons (f := 71) (args := #[.pointer (some ⟨w.heap.size, 0, none⟩)]) (by simp) (by simp [go_sem]) ?_
    refine (catch_p ⟨w.heap.size, 0, none⟩ 0 ((s.size - r1.length : Nat) : Int) _ c2 f2).mono ?_
    rintro e u' w'' ⟨rfl, rfl, rfl⟩
    have c3 : (w2.setCell ⟨w.heap.size, 0, none⟩ (.int .i64 ((s.size - r1.length : Nat) : Int))).cell? ⟨w.heap.size, 0, none⟩ = some (.int .i64 ((s.size - r1.length : Nat) : Int)) := by
      have h1 : (w2.setCell ⟨w.heap.size, 0, none⟩ (.int .i64 ((s.size - r1.length : Nat) : Int))).heap[w.heap.size]? = some (.cells #[.int .i64 ((s.size - r1.length : Nat) : Int)] 3 (0, 0)) := by rw [Joins.block_setCell G2.out]; rfl
      rw [cell_of_row _ _ _ _ _ _ h1]
      rfl
    have HT : Tried B b s w (.error r1) (.returned (.int .i64 ((s.size - r1.length : Nat) : Int))) (w2.setCell ⟨w.heap.size, 0, none⟩ (.int .i64 ((s.size - r1.length : Nat) : Int))) := ⟨B2.out.setNew (Nat.le_refl _) hBg 0 _, rfl, hl2⟩
    simp [Leaves, settle, results, Tryz.results34, go_sem, c3]
    exact HT
/-- the first byte at which no character of texts stands; -1: none -/
def wrongI (l : Ppa.Bs) : Int := match Ppa.wrongL l with | some k => (k : Int) | none => -1
def wrongO (o : Option Nat) : Int := match o with | some k => (k : Int) | none => -1
theorem wrong_next {f k : Nat} {r : Ppa.Bs} (h : r ≠ []) (h1 : Pch.charB (Lib.decodeL r).1 = true) (h2 : Pch.okR (Lib.decodeL r) = true) : Ppa.wrongF (f + 1) k r = Ppa.wrongF f (k + (Lib.decodeL r).2) (Ppa.skip r) := by
  rw [Ppa.wrongF, if_neg h, if_pos ⟨h2, h1⟩]
theorem wrong_here {f k : Nat} {r : Ppa.Bs} (h : r ≠ []) (h1 : ¬ (Pch.okR (Lib.decodeL r) = true ∧ Pch.charB (Lib.decodeL r).1 = true)) : Ppa.wrongF (f + 1) k r = some k := by
  rw [Ppa.wrongF, if_neg h, if_neg h1]
theorem wrong_end (f k : Nat) : Ppa.wrongF f k [] = none := by
  cases f with
  | zero => rfl
  | succ f => rw [Ppa.wrongF, if_pos rfl]
set_option maxRecDepth 100000 in
set_option maxHeartbeats 2000000 in
theorem wrong_any (s : ByteArray) (w : World) (he : Ev w) (hs : s.size ≤ 65536) :
    Calls Tryz.prog 33 #[.string s] w fun e w' => e = .returned (.int .i64 (wrongI s.data.toList)) ∧ Below w.heap.size w w' := by
  have hT : wrongO (Ppa.wrongF s.size 0 (s.data.toList.drop 0)) = wrongI s.data.toList := by unfold wrongI Ppa.wrongL wrongO; rw [size_len, List.drop_zero]
  generalize wrongI s.data.toList = T at hT
  have HT := Kept.mk hT
  have HEV := Kept.mk he.env
  have hlw : ∀ o, Below w.heap.size w (w.alloc o) := fun o => (Below.refl _ w).alloc (Nat.le_refl _) o
  clear hT he
  go_enter Tryz.func33, Tryz.ntmps33
  go_wp2
  go_loopg [3, 4, 5, 6] s.size (fun g _ _ _ _ wx => ∃ pos : Nat, wx.heap[w.heap.size]? = some (.stringIter s pos) ∧ Kept (Below w.heap.size w wx) ∧ Kept (wrongO (Ppa.wrongF g pos (s.data.toList.drop pos)) = T) ∧ s.size ≤ pos + g)
  case atStart => exact ⟨0, World.iter_heap w s 0, ⟨hlw _⟩, HT, by omega⟩
  case round =>
    obtain ⟨pos, hit, HB, HE, hle⟩ := hrel
    have hsz : w.heap.size < wr.heap.size := (Array.getElem?_eq_some_iff.1 hit).1
    by_cases hp : pos < s.size
    · obtain ⟨g, rfl⟩ : ∃ g, gk = g + 1 := ⟨gk - 1, by omega⟩
      have hne : s.data.toList.drop pos ≠ [] := by
        intro e
        have := congrArg List.length e
        rw [List.length_drop, size_len] at this
        simp at this
        omega
      have hnx : ∀ ty, (Instr.next (.pointer (some ⟨w.heap.size, 0, none⟩)) true ty).run Tryz.prog wr = _ := fun ty => Lib.run_next_any_at wr w.heap.size s pos ty hit hp
      rw [← Lib.decodeL_drop] at hnx
      have hw1 := Lib.decodeL_width (s.data.toList.drop pos)
      have hw4 := Ppa.decodeL_four (s.data.toList.drop pos)
      have hsk : Ppa.skip (s.data.toList.drop pos) = s.data.toList.drop (pos + (Lib.decodeL (s.data.toList.drop pos)).2) := by unfold Ppa.skip; rw [List.drop_drop]
      have h1 := HE.out
      have hgo := wrong_next (f := g) (k := pos) hne
      have hno := wrong_here (f := g) (k := pos) hne
      rw [hsk] at hgo
      have hlo := peek_lo (s.data.toList.drop pos)
      rw [peek_has hne] at hlo
      have CD := fun (wx : World) (hx : Env wx) => decode_call s pos hp wx hx
      generalize hD : Lib.decodeL (s.data.toList.drop pos) = D at hnx hw1 hw4 hgo hno CD hlo
      obtain ⟨c, d⟩ := D
      dsimp only at hnx hw1 hw4 hgo hno CD hlo
      have hit2 := Lib.iterAt_heap wr w.heap.size s pos (pos + d) hit
      have hB2 := Lib.below_iterAt HB.out (Nat.le_refl _) s (pos + d)
      obtain ⟨W, hWd⟩ : ∃ W, wr.iterAt w.heap.size s (pos + d) = W := ⟨_, rfl⟩
      rw [hWd] at hnx hit2 hB2
      have hWs : w.heap.size < W.heap.size := (Array.getElem?_eq_some_iff.1 hit2).1
      have HB2 := Kept.mk hB2
      have HCD := Kept.mk CD
      have H0 := Kept.mk (HEV.out.below hB2)
      have p0 : (0 : Int) ≤ (pos : Int) := by omega
      have p1 : (pos : Int) ≤ 65536 := by omega
      have p2 : (pos : Int) ≤ (s.size : Int) := by omega
      obtain ⟨hlo1, hlo2⟩ := hlo
      clear hB2 hit HB hWd hD hsk CD HE hne
      cases hC : Pch.charB (c : Int) with
      | false =>
        rw [hno (by rintro ⟨_, h⟩; rw [hC] at h; cases h)] at h1
        have H2 := Kept.mk h1.symm
        have HC := Kept.mk hC
        clear h1 hC hgo hno
        go_wp2_with (first | (go_at_call 69; refine (HCD.out _ H0.out).mono ?_; rintro e w1 ⟨rfl, hb1⟩; have HI1 := Kept.mk ((hb1.block _ hWs).trans hit2); have HB1 := Kept.mk (HB2.out.trans (hb1.mono (Nat.le_of_lt hWs))); have H1 := Kept.mk (H0.out.below hb1); have hz1 := hb1.size; clear hb1) | (go_at_call 70; refine (char_any _ _).mono ?_; rintro e w2 ⟨rfl, rfl⟩; rw [HC.out]))
        go_ret
        exact ⟨by rw [H2.out]; rfl, HB1.out⟩
      | true =>
        have HC := Kept.mk hC
        by_cases hE : c = 65533
        · subst hE
          clear HC
          have HC : Kept (Pch.charB 65533 = true) := ⟨by decide⟩
          by_cases hD1 : d = 1
          · subst hD1
            rw [hno (by rintro ⟨h, _⟩; cases h)] at h1
            have H2 := Kept.mk h1.symm
            clear h1 hC hgo hno
            go_wp2_with (first | (go_at_call 69; refine (HCD.out _ H0.out).mono ?_; rintro e w1 ⟨rfl, hb1⟩; have HI1 := Kept.mk ((hb1.block _ hWs).trans hit2); have HB1 := Kept.mk (HB2.out.trans (hb1.mono (Nat.le_of_lt hWs))); have H1 := Kept.mk (H0.out.below hb1); have hz1 := hb1.size; clear hb1) | (go_at_call 70; refine (char_any _ _).mono ?_; rintro e w2 ⟨rfl, rfl⟩; rw [HC.out]))
            go_ret
            exact ⟨by rw [H2.out]; rfl, HB1.out⟩
          · rw [hgo hC (by unfold Pch.okR; simp [hD1])] at h1
            have H2 := Kept.mk h1
            have q1 : ¬ (d : Int) = 1 := by omega
            have q2 : ((d : Int) == 1) = false := by simpa using q1
            clear h1 hC hgo hno hD1
            go_wp2_with (first | (go_at_call 69; refine (HCD.out _ H0.out).mono ?_; rintro e w1 ⟨rfl, hb1⟩; have HI1 := Kept.mk ((hb1.block _ hWs).trans hit2); have HB1 := Kept.mk (HB2.out.trans (hb1.mono (Nat.le_of_lt hWs))); have H1 := Kept.mk (H0.out.below hb1); have hz1 := hb1.size; clear hb1) | (go_at_call 70; refine (char_any _ _).mono ?_; rintro e w2 ⟨rfl, rfl⟩; rw [HC.out]))
            go_roundg g
            case measure => omega
            case rel => exact ⟨pos + d, HI1.out, HB1, H2, by omega⟩
        · rw [hgo hC (by unfold Pch.okR; simp [hE])] at h1
          have H2 := Kept.mk h1
          have q1 : ¬ (c : Int) = 65533 := by omega
          have q2 : ((c : Int) == 65533) = false := by simpa using q1
          clear h1 hC hgo hno hE
          go_wp2_with (first | (go_at_call 69; refine (HCD.out _ H0.out).mono ?_; rintro e w1 ⟨rfl, hb1⟩; have HI1 := Kept.mk ((hb1.block _ hWs).trans hit2); have HB1 := Kept.mk (HB2.out.trans (hb1.mono (Nat.le_of_lt hWs))); have H1 := Kept.mk (H0.out.below hb1); have hz1 := hb1.size; clear hb1) | (go_at_call 70; refine (char_any _ _).mono ?_; rintro e w2 ⟨rfl, rfl⟩; rw [HC.out]))
          go_roundg g
          case measure => omega
          case rel => exact ⟨pos + d, HI1.out, HB1, H2, by omega⟩
    · have hnx : ∀ ty, (Instr.next (.pointer (some ⟨w.heap.size, 0, none⟩)) true ty).run Tryz.prog wr = _ := fun ty => Lib.run_next_end_at wr w.heap.size s pos ty hit hp
      have h1 := HE.out
      rw [List.drop_eq_nil_of_le (by rw [size_len]; omega), wrong_end] at h1
      have H1 := Kept.mk h1.symm
      clear h1 HE
      go_wp2
      go_ret
      exact ⟨by rw [H1.out]; rfl, HB.out⟩
end Go.Proofs.YtlemdhfekdiaeaaGreatDoor.Wps
