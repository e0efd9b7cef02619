/- A range over the iterator words$1, whatever the loop's body keeps (chapter 31): the iterator turns its own captured text between two rounds. -/
import Derived.Test.YtakccaldcolbmaaGreatDoorLinesIt
namespace Go.Proofs.YtakccaldcolbmaaGreatDoor.Wln
open Go Go.RowKit Go.Shelf Go.Proofs.YtakccaldcolbmaaGreatDoor.Kb

/-- a turn of a block that is the text's own, or no cells and laid since the loop began -/
def OwnTurn (b B : Nat) (X : World) (row : Option Nat) : Prop := ∀ r, row = some r → r = b ∨ (B ≤ r ∧ ∃ ob : Obj, X.heap[r]? = some ob ∧ ob.isCells = false)
/-- how a round may be left -/
def rgPost (b B : Nat) (Ig : World → Prop) (Ix : World → Prop) (X : World) : Exit → Act → World → Prop
  | .normal, _, Y => KeepsFrom B X Y ∧ Y.heap[b]? = X.heap[b]? ∧ Ig Y
  | .ret, _, Y => KeepsFrom B X Y ∧ Ix Y
  | _, _, _ => False
set_option maxHeartbeats 1000000 in
theorem wp_words {g : Operand} {ps : Array Tmp} {assign body : Code} {Q : Exit → Act → World → Prop} {a : Act} {w : World} (b : Nat) (s : ByteArray) (hs : s.size ≤ 65536) (hb : Boxed w b 9 (.string s))
    (hg : a.eval g = .func (.func 65) #[] #[.pointer (some ⟨b, 0, none⟩)]) (hps : ps.size = 1)
    (I : Nat → Option (List (List UInt8)) → World → Prop) (Ix : World → Prop)
    (hI : ∀ k o X Y row, I k o X → X.grownBy Y row → OwnTurn b w.heap.size X row → I k o Y) (hM : ∀ k k' o X, k' ≤ k → I k o X → I k' o X)
    (hIx : ∀ X Y row, Ix X → X.grownBy Y row → OwnTurn b w.heap.size X row → Ix Y) (h0 : I s.size (Pln.wordsL s.data.toList) w) (a₁ : List UInt8 → Act)
    (hassign : ∀ (l : Nat) (x : List UInt8) (W : World) (K : Act → World → Prop), K (a₁ x) W →
      assign.wpIn (Fence.wide.inRound l) 4 Tryz.prog (Exit.then K (fun _ _ _ => False)) { tmps := (ps.zip #[.string ⟨x.toArray⟩]).foldl (fun t (p, v) => t.setIfInBounds p v) a.tmps, defers := [] } W)
    (hbody : ∀ (l : Nat) (k : Nat) (o : Option (List (List UInt8))) (x : List UInt8) (X : World), x ≠ [] → w.heap.size ≤ X.heap.size → I (k + 1) (o.map (x :: ·)) X → body.wpIn (Fence.wide.inRound l) 4 Tryz.prog (rgPost b w.heap.size (I k o) Ix X) (a₁ x) X)
    (hnone : ∀ (l : Nat) (k : Nat) (X : World), I k none X → body.wpIn (Fence.wide.inRound l) 4 Tryz.prog (rgPost b w.heap.size (fun _ => False) Ix X) (a₁ []) X)
    (hdone : ∀ (D : Nat) (W : World), w.heap.size ≤ D → I 0 (some []) W → W.heap[D]? = some (.deferred (some [])) → Q .normal { a with defers := { target := .collected D, args := #[] } :: a.defers } W)
    (hstop : ∀ (D : Nat) (W : World), w.heap.size ≤ D → Ix W → W.heap[D]? = some (.deferred (some [])) → Code.ret.wpIn Fence.wide 6 Tryz.prog Q { a with defers := { target := .collected D, args := #[] } :: a.defers } W) :
    (Code.rangeFunc g ps assign body).wpIn Fence.wide 6 Tryz.prog Q a w := by
  have hbl := hb.lt
  refine wpIn_rangeFunc ?_
  intro fn hfn
  obtain ⟨rec, hrec⟩ : ∃ rec : LoopState → Option Code → Loop, rec = fun st pe => { state := st, pending := pe, fn, tmps := a.tmps, params := ps, assign, body, defers := w.heap.size } := ⟨_, rfl⟩
  obtain ⟨W1, hW1⟩ : ∃ W1, (w.alloc (.deferred (some []))).alloc (.loop (rec .ready none)) = W1 := ⟨_, rfl⟩
  have g1 : w.grownBy W1 none := by
    rw [← hW1]
    refine ⟨rfl, rfl, rfl, by simp; omega, fun k hk _ => ?_⟩
    rw [Below.heap_alloc _ _ _ (by simp; omega), Below.heap_alloc _ _ _ hk]
  have hsz : W1.heap.size = w.heap.size + 2 := by rw [← hW1]; simp
  have hL1 : W1.heap[w.heap.size + 1]? = some (.loop (rec .ready none)) := by
    rw [← hW1]
    have := World.alloc_heap_new (w.alloc (.deferred (some []))) (.loop (rec .ready none))
    rwa [World.size_alloc] at this
  have hD1 : W1.heap[w.heap.size]? = some (.deferred (some [])) := by
    rw [← hW1]
    exact (Below.heap_alloc _ _ _ (by simp)).trans (World.alloc_heap_new w _)
  have noT : ∀ X : World, OwnTurn b w.heap.size X none := fun X r e => by cases e
  have bT : ∀ X : World, OwnTurn b w.heap.size X (some b) := fun X r e => by cases e; exact .inl rfl
  have lT : ∀ (X : World) (L : Loop), X.heap[w.heap.size + 1]? = some (.loop L) → OwnTurn b w.heap.size X (some (w.heap.size + 1)) := fun X L h r e => by cases e; exact .inr ⟨by omega, _, h, rfl⟩
  have hI1 := hI _ _ _ _ _ h0 g1 (noT _)
  have hb1 : Boxed W1 b 9 (.string s) := hb.kept g1 (by simp)
  refine ⟨w.heap.size + 1, [{ target := .collected w.heap.size, args := #[] }], W1, { target := .fn (.func 65) #[.pointer (some ⟨b, 0, none⟩)], args := #[.func (.yield (w.heap.size + 1)) #[] #[]] }, W1, 65,
    #[.func (.yield (w.heap.size + 1)) #[] #[], .pointer (some ⟨b, 0, none⟩)], W1, ?_, ?_, fun _ _ => trivial, ?_, fun h => (by cases h), ?_⟩
  · rw [← hW1, hrec]
    exact run_enterLoop_outer _ _ _ _ _
  · simp only [resolve, hg]
    simp [go_sem]
  · simp [invoke, go_sem]
  · -- the law's own two blocks beside the caller's invariant
    have hend : ∀ (jump : Option Code) (X Y : World), X.heap[w.heap.size + 1]? = some (.loop (rec .ready none)) → X.heap[w.heap.size]? = some (.deferred (some [])) →
        KeepsFrom w.heap.size (X.putObj (w.heap.size + 1) (.loop { rec .ready none with state := .busy })) Y →
        (Instr.endRound (w.heap.size + 1) jump).run Tryz.prog Y = .ok (.bool jump.isNone) (Y.putObj (w.heap.size + 1) (.loop (rec (if jump.isNone then .ready else .done) jump))) ∧
        Y.heap[w.heap.size + 1]? = some (.loop { rec .ready none with state := .busy }) ∧
        (Y.putObj (w.heap.size + 1) (.loop (rec (if jump.isNone then .ready else .done) jump))).heap[w.heap.size + 1]? = some (.loop (rec (if jump.isNone then .ready else .done) jump)) ∧
        (Y.putObj (w.heap.size + 1) (.loop (rec (if jump.isNone then .ready else .done) jump))).heap[w.heap.size]? = some (.deferred (some [])) := by
      intro jump X Y hl hd hk
      have hlt : w.heap.size + 1 < X.heap.size := (Array.getElem?_eq_some_iff.1 hl).1
      have hl3 := hk.same _ _ (by omega) (World.putObj_heap_same hlt) rfl
      have hd3 := hk.same _ _ (Nat.le_refl _) ((World.putObj_heap_other (by omega)).trans hd) rfl
      have hr := run_endRound (P := Tryz.prog) jump hl3
      rw [hrec] at hr hl3 ⊢
      exact ⟨hr, hl3, World.putObj_heap_same (Array.getElem?_eq_some_iff.1 hl3).1, (World.putObj_heap_other (by omega)).trans hd3⟩
    refine (words1_in (w.heap.size + 1) b
      (fun k o X => I k o X ∧ X.heap[w.heap.size + 1]? = some (.loop (rec .ready none)) ∧ X.heap[w.heap.size]? = some (.deferred (some [])))
      (fun X => Ix X ∧ X.heap[w.heap.size + 1]? = some (.loop (rec .done (some .ret))) ∧ X.heap[w.heap.size]? = some (.deferred (some [])))
      ?_ ?_ ?_ ?_ s hs W1 hb1 ⟨hI1, hL1, hD1⟩).mono ?_
    · rintro k o X Y ⟨h1, h2, h3⟩ hgr
      exact ⟨hI _ _ _ _ _ h1 hgr (bT _), (hgr.block _ (Array.getElem?_eq_some_iff.1 h2).1 (by simp; omega)).trans h2, (hgr.block _ (Array.getElem?_eq_some_iff.1 h3).1 (by simp; omega)).trans h3⟩
    · rintro k k' o X hk ⟨h1, h2⟩
      exact ⟨hM _ _ _ _ hk h1, h2⟩
    · rintro k o x X v hx ⟨hi, hl, hd⟩ hbx
      have hlt : w.heap.size + 1 < X.heap.size := (Array.getElem?_eq_some_iff.1 hl).1
      have hy := run_yield (P := Tryz.prog) (args := #[.string ⟨x.toArray⟩]) hl (by rw [hrec]; exact hps.symm)
      rw [hrec] at hy
      refine ⟨fn, _, assign, body, hy, roundIn_of_wpIn hfn (hassign _ x X _ ⟨_, run_beginRound hl (by rw [hrec]), ?_⟩)⟩
      clear hy
      have hi2 := hI _ _ _ _ _ hi (grownBy_putObj' X (w.heap.size + 1) (.loop { rec .ready none with state := .busy })) (lT _ _ hl)
      refine wpIn_mono (hbody _ k o x _ hx (by rw [World.putObj_size]; omega) hi2) ?_
      rintro e a3 Y hp
      cases e with
      | normal =>
        obtain ⟨hk, hbb, hig⟩ := hp
        obtain ⟨hr, hl3, hl4, hd4⟩ := hend none X Y hl hd hk
        have hbY : Boxed Y b 9 v := hbb.trans ((World.putObj_heap_other (by omega)).trans hbx)
        refine ⟨_, _, hr, true, rfl, ⟨.inl ⟨rfl, ⟨hI _ _ _ _ _ hig (grownBy_putObj' Y _ _) (lT _ _ hl3), hl4, hd4⟩, ?_⟩⟩⟩
        exact (World.putObj_heap_other (by omega)).trans hbY
      | ret =>
        obtain ⟨hk, hix⟩ := hp
        obtain ⟨hr, hl3, hl4, hd4⟩ := hend (some .ret) X Y hl hd hk
        exact ⟨_, _, hr, false, rfl, ⟨.inr ⟨rfl, hIx _ _ _ hix (grownBy_putObj' Y _ _) (lT _ _ hl3), hl4, hd4⟩⟩⟩
      | exit id => exact hp.elim
      | goto t => exact hp.elim
      | panic ch => exact hp.elim
      | outgrown => exact hp.elim
    · rintro k X ⟨hi, hl, hd⟩
      have hlt : w.heap.size + 1 < X.heap.size := (Array.getElem?_eq_some_iff.1 hl).1
      have hy := run_yield (P := Tryz.prog) (args := #[.string ⟨([] : List UInt8).toArray⟩]) hl (by rw [hrec]; exact hps.symm)
      rw [hrec] at hy
      refine ⟨fn, _, assign, body, hy, roundIn_of_wpIn hfn (hassign _ [] X _ ⟨_, run_beginRound hl (by rw [hrec]), ?_⟩)⟩
      clear hy
      have hi2 := hI _ _ _ _ _ hi (grownBy_putObj' X (w.heap.size + 1) (.loop { rec .ready none with state := .busy })) (lT _ _ hl)
      refine wpIn_mono (hnone _ k _ hi2) ?_
      rintro e a3 Y hp
      cases e with
      | normal => exact hp.2.2.elim
      | ret =>
        obtain ⟨hk, hix⟩ := hp
        obtain ⟨hr, hl3, hl4, hd4⟩ := hend (some .ret) X Y hl hd hk
        exact ⟨_, _, hr, false, rfl, hIx _ _ _ hix (grownBy_putObj' Y _ _) (lT _ _ hl3), hl4, hd4⟩
      | exit id => exact hp.elim
      | goto t => exact hp.elim
      | panic ch => exact hp.elim
      | outgrown => exact hp.elim
    · -- behind the iterator
      rintro e W2 ⟨⟨v, rfl⟩, (⟨hi, hl, hd⟩ | ⟨hi, hl, hd⟩)⟩
      · refine ⟨none, _, by have := run_endLoop (P := Tryz.prog) hl (by rw [hrec]; simp); rw [hrec] at this; exact this, hdone _ _ (Nat.le_refl _) (hI _ _ _ _ _ hi (grownBy_putObj' W2 _ _) (lT _ _ hl)) ((World.putObj_heap_other (by omega)).trans hd)⟩
      · refine ⟨some .ret, _, by have := run_endLoop (P := Tryz.prog) hl (by rw [hrec]; simp); rw [hrec] at this; exact this, hstop _ _ (Nat.le_refl _) (hIx _ _ _ hi (grownBy_putObj' W2 _ _) (lT _ _ hl)) ((World.putObj_heap_other (by omega)).trans hd)⟩
end Go.Proofs.YtakccaldcolbmaaGreatDoor.Wln
