/- The walks over print's put, kids and node (chapter 08). -/
import Derived.Test.YtkjodleggfacbaaDoorPrintW
import Derived.Test.YtkjodleggfacbaaDoorNodeKit
import Derived.Deep.RegionHeld3
import Derived.Deep.QuietTactic
import Derived.BigQuiet
namespace Go.Proofs.YtkjodleggfacbaaDoor.Wpr
open Go Go.RowKit Go.Proofs.YtkjodleggfacbaaDoor.Kb Go.Proofs.YtkjodleggfacbaaDoor.Emk Go.Proofs.YtkjodleggfacbaaDoor.Wtr

/-- the writer in block b: these bytes are written, and it knows its tree -/
def Wr (A : Option Addr) (n c b : Nat) (acc : List UInt8) (w : World) : Prop := Is 47 [] [.slice A n c] b b acc w
theorem lies_wr (A : Option Addr) (n c : Nat) : liesAt Tryd.prog Tryd.prog.depth 47 ((([] : List Value).length + 2 + [Value.slice A n c].length) / Tryd.prog.cellsOf 47) ([] : List Value).length 45 1 = true := by kernel_rfl
theorem wr_ne : 47 ≠ 5 := by decide
theorem Wr.tree {A : Option Addr} {n c b : Nat} {acc : List UInt8} {w : World} (h : Wr A n c b acc w) : w.cell? ⟨b, 2, none⟩ = some (.slice A n c) := by
  obtain ⟨p, _, v, h1, _⟩ := h.any
  rw [cell_of_row w b _ _ _ _ h1]
  rfl
theorem _root_.Go.Proofs.YtkjodleggfacbaaDoor.Ppr.putL_ge (h : UInt8 → List UInt8) (s : List UInt8) : s.length ≤ (Ppr.putL h s).length := by
  induction s with
  | nil => exact Nat.le_refl _
  | cons c s ih =>
    have h1 : 1 ≤ (Ppr.putC h c).length := by
      unfold Ppr.putC
      split
      · simp
      · rename_i hn
        exact List.length_pos_iff.2 hn
    unfold Ppr.putL at ih ⊢
    rw [List.flatMap_cons, List.length_append, List.length_cons]
    omega
theorem _root_.Go.Proofs.YtkjodleggfacbaaDoor.Ppr.escL_ge (s : List UInt8) : s.length ≤ (Ppr.escL s).length := Ppr.putL_ge _ s
/-- what stands in a block that is no row of bytes, nor the writer's, stays -/
abbrev Kp (b : Nat) (w w' : World) : Prop := Lib.OthersKept 5 (some b) w w'
theorem kp_below {b : Nat} {w w' : World} (h : Below w.heap.size w w') : Kp b w w' := fun k o hk _ _ => by
  rw [h.block k (Array.getElem?_eq_some_iff.1 hk).1]
  exact hk
theorem kp_cells {b k : Nat} {w w' : World} {cs : Array Value} {t : TypeId} {fr : Nat × Nat} (h : Kp b w w') (hk : w.heap[k]? = some (.cells cs t fr)) (hb : k ≠ b) (ht : t ≠ 5) : w'.heap[k]? = some (.cells cs t fr) :=
  h k _ hk (fun e => hb (Option.some.inj e)) (fun c fz e => ht (by injection e))
set_option maxRecDepth 100000 in
set_option maxHeartbeats 2000000 in
theorem put_any (b : Nat) (A : Option Addr) (m c : Nat) (acc : List UInt8) (L : List ByteArray) (g n : Nat) (fr : Nat × Nat) (w : World) (h : Wr A m c b acc w) (hg : w.heap[g]? = some (.cells (L.map Value.string).toArray 9 fr)) (hgb : g ≠ b) (hn : L.length = n) (hL : L.length ≤ 10) (hz : acc.length + (L.flatMap fun s => s.data.toList).length ≤ 100000000000) :
    Calls Tryd.prog 32 #[.pointer (some ⟨b, 0, none⟩), .slice (some ⟨g, 0, none⟩) n n] w fun e w' => e = .returned (.tuple #[]) ∧ Wr A m c b (acc ++ L.flatMap fun s => s.data.toList) w' ∧ Below b w w' ∧ Kp b w w' := by
  subst hn
  have H0 : Kept (Wr A m c b (acc ++ (L.take 0).flatMap fun s => s.data.toList) w) := ⟨by simpa using h⟩
  have HG := Kept.mk hg
  clear h hg
  go_enter Tryd.func32, Tryd.ntmps32
  go_wp2
  go_loopw [8] (fun i wx => ∃ k : Nat, k ≤ L.length ∧ i = .int .i64 (k : Int) ∧ Kept (Wr A m c b (acc ++ (L.take k).flatMap fun s => s.data.toList) wx) ∧ Kept (Below b w wx) ∧ Kept (Kp b w wx)) (fun i _ => L.length - (intOf i).toNat)
  case atStart => exact ⟨0, by omega, rfl, H0, ⟨Below.refl _ _⟩, ⟨Lib.OthersKept.refl _ _ _⟩⟩
  case round =>
    clear H0
    obtain ⟨k, hk, rfl, HO, HB, HK⟩ := hrel
    have k0 : (0 : Int) ≤ (k : Int) := by omega
    by_cases hlt : k < L.length
    · have k1 : (k : Int) < (L.length : Int) := by omega
      obtain ⟨s, hs⟩ : ∃ s, L[k]? = some s := ⟨_, List.getElem?_eq_getElem hlt⟩
      have hc : wr.cell? ⟨g, k, none⟩ = some (.string s) := by
        rw [cell_of_row wr g k _ _ _ (kp_cells HK.out HG.out hgb (by decide))]
        simp [hs]
      have htk : (acc ++ (L.take (k + 1)).flatMap fun s => s.data.toList) = (acc ++ (L.take k).flatMap fun s => s.data.toList) ++ s.data.toList := by
        rw [List.take_add_one, hs, List.flatMap_append]
        simp
      have hln : (acc ++ (L.take (k + 1)).flatMap fun s => s.data.toList).length ≤ 100000000000 := by
        have e : L.flatMap (fun s => s.data.toList) = (L.take (k + 1)).flatMap (fun s => s.data.toList) ++ (L.drop (k + 1)).flatMap (fun s => s.data.toList) := by rw [← List.flatMap_append, List.take_append_drop]
        rw [e, List.length_append] at hz
        rw [List.length_append]
        omega
      rw [htk, List.length_append, size_len] at hln
      have HTK := Kept.mk htk
      generalize (acc ++ (L.take k).flatMap fun s => s.data.toList) = M at HO HTK hln
      have CW := Kept.mk (write_any s wr_ne (Nat.le_refl b) HO.out (lies_wr A m c) (by omega))
      clear htk hs
      go_wp2_with (go_at_call 36; refine CW.out.mono ?_; rintro e w5 ⟨rfl, h5, hb5, hk5⟩; have O5 := Kept.mk h5; have B5 := Kept.mk (HB.out.trans hb5); have K5 := Kept.mk (HK.out.trans hk5); clear h5 hb5 hk5)
      go_roundw
      case rel => exact ⟨k + 1, by omega, by go_num, ⟨by rw [HTK.out]; exact O5.out⟩, B5, K5⟩
      case measure => simp [intOf]; omega
    · obtain rfl : k = L.length := by omega
      rw [List.take_of_length_le (Nat.le_refl _)] at HO
      go_wp2
      go_end0
      exact ⟨rfl, HO.out, HB.out, HK.out⟩
/-- what the walk over a node shows; w0: the world in which the writer was laid -/
def NodeOk (A : Option Addr) (l : List Ptr.Nd) (c : Nat) (w0 : World) (j : Nat) : Prop := ∀ (acc : List UInt8) (w : World), Wr A l.length c w0.heap.size acc w → Below w0.heap.size w0 w → acc.length + (Ppr.prN l j).length ≤ 10000000000 →
  Calls Tryd.prog 21 #[.pointer (some ⟨w0.heap.size, 0, none⟩), .int .i64 (j : Int)] w fun e w' => e = .returned (.int .i64 (Ptr.endN l j : Int)) ∧ Wr A l.length c w0.heap.size (acc ++ Ppr.prN l j) w' ∧ Below w0.heap.size w0 w' ∧ Kp w0.heap.size w w'
theorem flat_snoc {α : Type} (f : α → List UInt8) (V : List α) (k : α) : (V ++ [k]).flatMap f = V.flatMap f ++ f k := by simp
theorem ret_nat {x y : Nat} (h : x = y) : Ending.returned (.int .i64 (x : Int)) = .returned (.int .i64 (y : Int)) := by rw [h]
set_option maxRecDepth 100000 in
set_option maxHeartbeats 2000000 in
theorem kids_any (A : Option Addr) (l : List Ptr.Nd) (c : Nat) (root : Bool) (hA : Ptr.allB l root l.length = true) (w0 : World) (hr : RdN w0 A l) (i k0 : Nat) (hN : ∀ j, i < j → j < l.length → NodeOk A l c w0 j) (hK : Ppr.Kid l i k0 []) (acc : List UInt8) (w : World)
    (hW : Wr A l.length c w0.heap.size acc w) (hB : Below w0.heap.size w0 w) (hz : acc.length + ((Ppr.childs l i).flatMap (Ppr.prN l)).length ≤ 10000000000) :
    Calls Tryd.prog 33 #[.pointer (some ⟨w0.heap.size, 0, none⟩), .int .i64 (i : Int), .int .i64 (k0 : Int)] w fun e w' => e = .returned (.int .i64 (Ptr.endN l i : Int)) ∧ Wr A l.length c w0.heap.size (acc ++ (Ppr.childs l i).flatMap (Ppr.prN l)) w' ∧ Below w0.heap.size w0 w' ∧ Kp w0.heap.size w w' := by
  have HR := Kept.mk hr
  have HN := Kept.mk hN
  have HA := Kept.mk hA
  have H0 : Kept (Ppr.Kid l i k0 [] ∧ Wr A l.length c w0.heap.size (acc ++ ([] : List Nat).flatMap (Ppr.prN l)) w ∧ Below w0.heap.size w0 w ∧ Kp w0.heap.size w w) := ⟨hK, by simpa using hW, hB, Lib.OthersKept.refl _ _ _⟩
  have HZ := Kept.mk hz
  clear hr hN hA hK hW hB hz
  go_enter Tryd.func33, Tryd.ntmps33
  go_wp2
  go_loopw [2] (fun v wx => ∃ (k : Nat) (V : List Nat), v = .int .i64 (k : Int) ∧ Kept (Ppr.Kid l i k V ∧ Wr A l.length c w0.heap.size (acc ++ V.flatMap (Ppr.prN l)) wx ∧ Below w0.heap.size w0 wx ∧ Kp w0.heap.size w wx)) (fun v _ => l.length - (intOf v).toNat)
  case atStart => exact ⟨k0, [], rfl, H0⟩
  case round =>
    clear H0
    obtain ⟨k, V, rfl, H⟩ := hrel
    obtain ⟨hK, hW, hB, hP⟩ := H.out
    have ct := hW.tree
    have hkl := hK.hi
    have hik := hK.lo
    have k0 : (0 : Int) ≤ (k : Int) := by omega
    have HH := Kept.mk (And.intro hK (And.intro hW (And.intro hB hP)))
    clear hK hW hP H
    by_cases hlt : k < l.length
    · have k1 : (k : Int) < (l.length : Int) := by omega
      obtain ⟨g, off, rfl, _, _, _, c3⟩ := (HR.out.below hB).at_ hlt
      simp only at c3
      by_cases hp : Ptr.par l k = i
      · rw [hp] at c3
        have hs : Ppr.childs l i = (V ++ [k]) ++ Ppr.kidsFrom l i (Ptr.endN l k) := (Ppr.kid_step HA.out HH.out.1 hlt hp).rest
        have hzz := HZ.out
        rw [hs, List.flatMap_append, flat_snoc] at hzz
        simp only [List.length_append] at hzz
        have hen : (Ptr.endN l k) ≤ l.length := (Ptr.endN_spec l k hlt).2.1
        have hen2 : k < Ptr.endN l k := (Ptr.endN_spec l k hlt).1
        have CN := Kept.mk (HN.out k hik hlt (acc ++ V.flatMap (Ppr.prN l)) wr HH.out.2.1 HH.out.2.2.1 (by rw [List.length_append]; omega))
        clear hs hzz hB
        go_wp2_with (go_at_call 21; refine CN.out.mono ?_; rintro e w5 ⟨rfl, h5, hb5, hk5⟩; have O5 := Kept.mk (And.intro h5 (And.intro hb5 (HH.out.2.2.2.trans hk5))); clear h5 hb5 hk5)
        go_roundw
        case rel => exact ⟨Ptr.endN l k, V ++ [k], rfl, ⟨Ppr.kid_step HA.out HH.out.1 hlt hp, by rw [flat_snoc, ← List.append_assoc]; exact O5.out.1, O5.out.2.1, O5.out.2.2⟩⟩
        case measure => simp [intOf]; omega
      · have hpb : (Ptr.par l k == (i : Int)) = false := by simpa using hp
        obtain ⟨e1, e2⟩ := Ppr.kid_stop HA.out HH.out.1 (.inr hp)
        have E1 := Kept.mk e1
        have E2 := Kept.mk e2
        clear e1 e2 hB
        go_wp2
        go_ret
        exact ⟨ret_nat E2.out.symm, by rw [E1.out]; exact HH.out.2.1, HH.out.2.2.1, HH.out.2.2.2⟩
    · obtain rfl : k = l.length := by omega
      obtain ⟨e1, e2⟩ := Ppr.kid_stop HA.out HH.out.1 (.inl rfl)
      have E1 := Kept.mk e1
      have E2 := Kept.mk e2
      clear e1 e2 hB
      go_wp2
      go_ret
      exact ⟨ret_nat E2.out.symm, by rw [E1.out]; exact HH.out.2.1, HH.out.2.2.1, HH.out.2.2.2⟩
/-- the texts that put is handed, in a block of their own -/
theorem put_new (b : Nat) (A : Option Addr) (m c : Nat) (acc : List UInt8) (L : List ByteArray) (n : Nat) (w : World) (h : Wr A m c b acc w) (hn : L.length = n) (hL : L.length ≤ 10) (hz : acc.length + (L.flatMap fun s => s.data.toList).length ≤ 100000000000) :
    Calls Tryd.prog 32 #[.pointer (some ⟨b, 0, none⟩), .slice (some ⟨w.heap.size, 0, none⟩) n n] (w.alloc (.cells (L.map Value.string).toArray 9)) fun e w' => e = .returned (.tuple #[]) ∧ Wr A m c b (acc ++ L.flatMap fun s => s.data.toList) w' ∧ Below b w w' ∧ Kp b w w' := by
  have hb := Below.refl w.heap.size w
  have hlt := h.lt
  have ha := hb.alloc (Nat.le_refl _) (.cells (L.map Value.string).toArray 9)
  refine (put_any b A m c acc L w.heap.size n (0, 0) _ (h.below ha) (heap_alloc_new _ _) (by omega) hn hL hz).mono ?_
  rintro e w' ⟨he, h1, h2, h3⟩
  exact ⟨he, h1, (ha.mono (Nat.le_of_lt hlt)).trans h2, (kp_below ha).trans h3⟩
end Go.Proofs.YtkjodleggfacbaaDoor.Wpr
