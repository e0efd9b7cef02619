/- The program's parser: a name again. -/
import Derived.Test.YtlemdhfekdiaeaaGreatDoorParseV
namespace Go.Proofs.YtlemdhfekdiaeaaGreatDoor.Wps
open Go Go.RowKit Go.Proofs.YtlemdhfekdiaeaaGreatDoor.Kb Go.Proofs.YtlemdhfekdiaeaaGreatDoor.Wch Go.Proofs.YtlemdhfekdiaeaaGreatDoor.Emk

theorem peek_has {r : Ppa.Bs} (h : r ≠ []) : Ppa.peek r = ((Lib.decodeL r).1 : Int) := by unfold Ppa.peek; rw [if_neg h]
theorem again_eq {f : Nat} {n r : Ppa.Bs} (hn : n ≠ []) (h : Ppa.peek r = Ppa.peek n) : Ppa.againF (f + 1) n r = Ppa.againF f (Ppa.skip n) (Ppa.skip r) := by
  rw [Ppa.againF, if_neg hn, if_pos h]
theorem again_ne {f : Nat} {n r : Ppa.Bs} (hn : n ≠ []) (h : ¬ Ppa.peek r = Ppa.peek n) : Ppa.againF (f + 1) n r = .error r := by
  rw [Ppa.againF, if_neg hn, if_neg h]
theorem again_nil (f : Nat) (r : Ppa.Bs) : Ppa.againF f [] r = .ok r := by
  cases f with
  | zero => rfl
  | succ f => rw [Ppa.againF, if_pos rfl]
set_option maxRecDepth 100000 in
/-- must, at any text -/
theorem again_r {B b : Nat} {s : ByteArray} {x : List Value} {r : Ppa.Bs} {w : World} (a : ByteArray) (h : Pa B b s x r w) :
    Calls Tryz.prog 40 #[.pointer (some ⟨b, 0, none⟩), .string a] w fun e w' => Ways B b s x w (.tuple #[]) (Ppa.againL a.data.toList r) e w' := by
  have hlt := h.row.lt
  have hB0 : B ≤ w.heap.size := h.ev.le
  have hT : Ppa.againF a.size (a.data.toList.drop 0) r = Ppa.againL a.data.toList r := by unfold Ppa.againL; rw [size_len, List.drop_zero]
  generalize Ppa.againL a.data.toList r = T at hT
  have HT := Kept.mk hT
  clear hT
  go_enter Tryz.func40, Tryz.ntmps40
  go_wp2
  go_loopg [] a.size (fun g wx => ∃ (pos : Nat) (r' : Ppa.Bs), wx.heap[w.heap.size]? = some (.stringIter a pos) ∧ Pa B b s x r' wx ∧ Kept (w.grownBy wx (some b)) ∧ Kept (Ppa.againF g (a.data.toList.drop pos) r' = T) ∧ a.size ≤ pos + g)
  case atStart => exact ⟨0, r, World.iter_heap w a 0, h.below ((Below.refl _ w).alloc (Nat.le_refl _) _), ⟨grown_of_below ((Below.refl _ w).alloc (Nat.le_refl _) _) _⟩, HT, by omega⟩
  case round =>
    obtain ⟨pos, r', hit, hP, G, HE, hle⟩ := hrel
    have hsz : w.heap.size < wr.heap.size := (Array.getElem?_eq_some_iff.1 hit).1
    by_cases hp : pos < a.size
    · obtain ⟨g, rfl⟩ : ∃ g, gk = g + 1 := ⟨gk - 1, by omega⟩
      have hne : a.data.toList.drop pos ≠ [] := by
        intro e
        have := congrArg List.length e
        rw [List.length_drop, size_len] at this
        simp at this
        omega
      have hnx : ∀ ty, (Instr.next (.pointer (some ⟨w.heap.size, 0, none⟩)) true ty).run Tryz.prog wr = _ := fun ty => Lib.run_next_any_at wr w.heap.size a pos ty hit hp
      rw [← Lib.decodeL_drop] at hnx
      have hw1 := Lib.decodeL_width (a.data.toList.drop pos)
      have hsk : Ppa.skip (a.data.toList.drop pos) = a.data.toList.drop (pos + (Lib.decodeL (a.data.toList.drop pos)).2) := by unfold Ppa.skip; rw [List.drop_drop]
      have hpn := peek_has hne
      have h1 := HE.out
      have hst := fun e => again_eq (f := g) (r := r') hne e
      have hno := fun e => again_ne (f := g) (r := r') hne e
      rw [hsk] at hst
      rw [hpn] at hst hno
      generalize hD : Lib.decodeL (a.data.toList.drop pos) = D at hnx hw1 hst hno
      obtain ⟨c, d⟩ := D
      dsimp only at hnx hw1 hst hno
      have hit2 := Lib.iterAt_heap wr w.heap.size a pos (pos + d) hit
      have hP2 := hP.iter (k := w.heap.size) hB0 (by omega) a (pos + d)
      have hG2 := grown_iter G.out a (pos + d)
      obtain ⟨W, hWd⟩ : ∃ W, wr.iterAt w.heap.size a (pos + d) = W := ⟨_, rfl⟩
      rw [hWd] at hnx hit2 hP2 hG2
      have hWs : w.heap.size < W.heap.size := (Array.getElem?_eq_some_iff.1 hit2).1
      have HG2 := Kept.mk hG2
      clear hG2 hit hP hWd hD hpn hsk HE G
      by_cases hq : Ppa.peek r' = (c : Int)
      · rw [hst hq] at h1
        have H2 := Kept.mk h1
        have CM := Kept.mk (may_r (c : Int) (by omega) hP2)
        rw [decide_eq_true hq, if_pos hq] at CM
        clear hq hst hno h1
        go_wp2_with (go_at_call 41; refine CM.out.mono ?_; rintro e w1 ⟨rfl, hP1, hg1⟩; have G1 := Kept.mk hg1; clear hg1)
        go_roundg g
        case measure => omega
        case rel => exact ⟨pos + d, Ppa.skip r', (G1.out.block _ hWs (by intro e; injection e with e; omega)).trans hit2, hP1, ⟨HG2.out.trans G1.out⟩, H2, by omega⟩
      · rw [hno hq] at h1
        have HX := Kept.mk h1.symm
        have CM := Kept.mk (may_r (c : Int) (by omega) hP2)
        rw [decide_eq_false hq, if_neg hq] at CM
        clear hq hst hno h1
        go_wp2_with (first | (go_at_call 41; refine CM.out.mono ?_; rintro e w1 ⟨rfl, hP1, hg1⟩; have G1 := Kept.mk hg1; clear hg1) | (go_at_call 44; refine (no_r hP1).mono ?_; rintro e w2 ⟨rfl, rfl⟩))
        exact ⟨rfl, HG2.out.trans G1.out, by rw [HX.out]; exact ⟨rfl, hP1.len⟩⟩
    · have hnx : ∀ ty, (Instr.next (.pointer (some ⟨w.heap.size, 0, none⟩)) true ty).run Tryz.prog wr = _ := fun ty => Lib.run_next_end_at wr w.heap.size a pos ty hit hp
      have h1 := HE.out
      rw [List.drop_eq_nil_of_le (by rw [size_len]; omega), again_nil] at h1
      have H1 := Kept.mk h1.symm
      clear h1 HE
      go_wp2
      go_end0
      exact ⟨G.out, by rw [H1.out]; exact ⟨rfl, hP⟩⟩
theorem again_s_ok {B b : Nat} {s : ByteArray} {st : Ppa.St} {r t nm : Ppa.Bs} {w : World} (h : Ps B b s st r w) (hm : Ppa.againL nm r = .ok t) :
    Calls Tryz.prog 40 #[.pointer (some ⟨b, 0, none⟩), .string ⟨nm.toArray⟩] w fun e w' => e = .returned (.tuple #[]) ∧ Ps B b s st t w' ∧ Bel B b w w' := h.way_ok (fun _ hP => again_r ⟨nm.toArray⟩ hP) hm
theorem again_s_no {B b : Nat} {s : ByteArray} {st : Ppa.St} {r t nm : Ppa.Bs} {w : World} (h : Ps B b s st r w) (hm : Ppa.againL nm r = .error t) :
    Calls Tryz.prog 40 #[.pointer (some ⟨b, 0, none⟩), .string ⟨nm.toArray⟩] w fun e w' => Gone (s.size - t.length) e ∧ t.length ≤ s.size ∧ Bel B b w w' := h.way_no (fun _ hP => again_r ⟨nm.toArray⟩ hP) hm
end Go.Proofs.YtlemdhfekdiaeaaGreatDoor.Wps
