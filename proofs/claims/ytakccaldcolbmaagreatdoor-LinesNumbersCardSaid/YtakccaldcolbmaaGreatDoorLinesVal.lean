/- Commands, fates and rows of texts as values (chapter 31). -/
import Derived.Test.YtakccaldcolbmaaGreatDoorLinesRefW
namespace Go.Proofs.YtakccaldcolbmaaGreatDoor.Wln
open Go Go.RowKit Go.Proofs.YtakccaldcolbmaaGreatDoor.Kb

/-- a row of texts, readable from A on -/
def RdS (w : World) (A : Option Addr) (L : List (List UInt8)) : Prop := ∀ (i : Nat) (x : List UInt8), L[i]? = some x → ∃ g off, A = some ⟨g, off, none⟩ ∧ w.cell? ⟨g, off + i, none⟩ = some (.string ⟨x.toArray⟩)
theorem RdS.tail {w : World} {g off : Nat} {x : List UInt8} {L : List (List UInt8)} (h : RdS w (some ⟨g, off, none⟩) (x :: L)) : RdS w (some ⟨g, off + 1, none⟩) L := by
  intro i y hy
  obtain ⟨g', off', e, hc⟩ := h (i + 1) y (by simpa using hy)
  cases e
  exact ⟨g, off + 1, rfl, by rw [show off + 1 + i = off + (i + 1) by omega]; exact hc⟩
theorem RdS.below {w w' : World} {A : Option Addr} {L : List (List UInt8)} (h : RdS w A L) (hb : Below w.heap.size w w') : RdS w' A L := by
  intro i x hx
  obtain ⟨g, off, e, hc⟩ := h i x hx
  exact ⟨g, off, e, by rw [hb.cell (p := ⟨g, off + i, none⟩) (cell_lt hc)]; exact hc⟩
theorem own_shapeS {w : World} {base n : Nat} {v : Value} {xs : List Value} (h : w.ownsRow base 9 1 v n xs) : ∃ A c, v = .slice A n c ∧ n ≤ c := by
  rcases h.2 with ⟨h, hn⟩ | ⟨g, cap, cur, h, _, _, _, hc, _⟩
  · rw [hn]; exact ⟨none, 0, h, Nat.le_refl _⟩
  · exact ⟨_, cap, h, by omega⟩
theorem rds_own {w : World} {base n c : Nat} {A : Option Addr} {L : List (List UInt8)} (h : w.ownsRow base 9 1 (.slice A n c) n (stC L)) (hn : L.length = n) : RdS w A L := by
  intro i x hx
  have hi : i < L.length := (List.getElem?_eq_some_iff.1 hx).1
  rcases h.2 with ⟨e, h0⟩ | ⟨g, cap, cur, e, _⟩
  · omega
  · cases e
    refine ⟨g, 0, rfl, ?_⟩
    have h1 := h.cells (g := g) rfl i (.string ⟨x.toArray⟩) (by unfold stC; rw [List.getElem?_map, hx]; rfl)
    have hadd : (⟨g, 0, none⟩ : Addr).add i = ⟨g, i, none⟩ := by unfold Addr.add; split <;> simp_all
    rw [hadd] at h1
    rw [Nat.zero_add]
    exact h1
theorem own_base {w : World} {base base' e size n : Nat} {v : Value} {xs : List Value} (h : w.ownsRow base e size v n xs) (hb : base' ≤ base) : w.ownsRow base' e size v n xs := by
  refine ⟨h.1, ?_⟩
  rcases h.2 with h2 | ⟨g, cap, cur, hv, hg, rest⟩
  · exact .inl h2
  · exact .inr ⟨g, cap, cur, hv, Nat.le_trans hb hg, rest⟩
theorem own_far {w w' : World} {base e size n : Nat} {v : Value} {xs : List Value} (h : w.ownsRow base e size v n xs) (hk : ∀ g, base ≤ g → g < w.heap.size → w'.heap[g]? = w.heap[g]?) : w'.ownsRow base e size v n xs := by
  refine ⟨h.1, ?_⟩
  rcases h.2 with h2 | ⟨g, cap, cur, hv, hg, hb, rest⟩
  · exact .inl h2
  · exact .inr ⟨g, cap, cur, hv, hg, (hk g hg (Array.getElem?_eq_some_iff.1 hb).1).trans hb, rest⟩
theorem KeepsW (w : World) (a : Addr) (v : Value) : w.heap.size ≤ (w.setCell a v).heap.size := by simp [World.setCell]
theorem frozen_of_row (X : World) (b i : Nat) {cs : Array Value} {ty : TypeId} (h : X.heap[b]? = some (.cells cs ty (0, 0))) : X.frozen? ⟨b, i, none⟩ = false := by simp [World.frozen?, h]
theorem block_set {W : World} {b : Nat} {cs : Array Value} {ty : TypeId} {fr : Nat × Nat} (h : W.heap[b]? = some (.cells cs ty fr)) (i : Nat) (v : Value) : (W.setCell ⟨b, i, none⟩ v).heap[b]? = some (.cells (cs.setIfInBounds i v) ty fr) := by
  obtain ⟨hlt, hk⟩ := Array.getElem?_eq_some_iff.1 h
  show (W.heap.modify b _)[b]? = _
  rw [Array.getElem?_eq_getElem (by rw [Array.size_modify]; exact hlt), Array.getElem_modify_self, hk]
  rfl
/-- a fate, fates, as cells -/
def fateC (x : Int × Int) : List Value := [.int .i64 x.1, .int .u8 x.2]
def fatesC (F : List (Int × Int)) : List Value := F.flatMap fateC
theorem fatesC_append (F G : List (Int × Int)) : fatesC (F ++ G) = fatesC F ++ fatesC G := by simp [fatesC]
theorem fatesC_len : ∀ (F : List (Int × Int)), (fatesC F).length = F.length * 2
  | [] => rfl
  | x :: F => by
    have := fatesC_len F
    unfold fatesC at this ⊢
    rw [List.flatMap_cons, List.length_append, this, List.length_cons]
    show 2 + _ = _
    omega
/-- a command as a value -/
def cmdV (k : Int) (t : List UInt8) (n : Int) (v : Value) : Value := .agg #[.int .u8 k, .string ⟨t.toArray⟩, .int .i64 n, v]
theorem infoF : (Tryz.prog.info? 42).map (fun i => (i.zero, i.size, i.bytes)) = some (some (.agg #[.int .i64 0, .int .u8 0]), 2, 16) := by kernel_rfl
/-- what a reader of words hands back -/
def CmdIs (w : World) (r : Option Pln.Cmd) (e : Ending) (w' : World) : Prop :=
  Below w.heap.size w w' ∧ match r with
  | some (k, t, n, F) => ∃ A c, e = .returned (.tuple #[cmdV k t n (.slice A F.length c), .bool true]) ∧ w'.ownsRow w.heap.size 42 2 (.slice A F.length c) F.length (fatesC F)
  | none => ∃ k t n A m c, e = .returned (.tuple #[cmdV k t n (.slice A m c), .bool false])
/-- what a line says; none: it is too long -/
def lineR (s : List UInt8) : Option (Option Pln.Cmd) := if 65536 < s.length then none else some (Pln.lineL s)
/-- what a reader of a line hands back -/
def LineIs (w : World) (r : Option (Option Pln.Cmd)) (e : Ending) (w' : World) : Prop :=
  Below w.heap.size w w' ∧ match r with
  | none => e = .returned (.tuple #[cmdV 0 [] 0 (.slice none 0 0), .int .i64 3])
  | some (some (k, t, n, F)) => ∃ A c, e = .returned (.tuple #[cmdV k t n (.slice A F.length c), .int .i64 0]) ∧ w'.ownsRow w.heap.size 42 2 (.slice A F.length c) F.length (fatesC F)
  | some none => e = .returned (.tuple #[cmdV 0 [] 0 (.slice none 0 0), .int .i64 310])
end Go.Proofs.YtakccaldcolbmaaGreatDoor.Wln
