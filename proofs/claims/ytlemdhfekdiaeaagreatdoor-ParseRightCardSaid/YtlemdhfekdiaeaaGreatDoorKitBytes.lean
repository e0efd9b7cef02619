/- Words for slices of bytes: a slice that came in, a slice that the call made; the arguments read again behind a call that has only made memory. -/
import Derived.Test.YtlemdhfekdiaeaaGreatDoorChecked
import Derived.WalkKit
import Derived.ProofKit
import Derived.OpenShut
import Derived.Handy
import Derived.Lib.Hide
import Derived.Deep.LoopGhost
import Derived.Deep.Light
import Derived.Deep.DeepCutAuto
import Derived.Deep.RegionWith
import Derived.BigQuiet
import Derived.Deep.QuietTactic
namespace Go.Proofs.YtlemdhfekdiaeaaGreatDoor.Kb
open Go Go.RowKit Go.ChangeShapes Go.WideShapes Go.ChangeAt

/-- kept from every tactic of the walk -/
structure Kept (p : Prop) : Prop where
  out : p
theorem ret_bool {a b : Bool} (h : a = b) : Ending.returned (.bool a) = .returned (.bool b) := by rw [h]
theorem cell_lt {w : World} {g i : Nat} {v : Value} (h : w.cell? ⟨g, i, none⟩ = some v) : g < w.heap.size := by
  rcases Nat.lt_or_ge g w.heap.size with hl | hg
  · exact hl
  · simp [World.cell?, Array.getElem?_eq_none hg] at h

/-- bytes as cells -/
def bc (l : List UInt8) : List Value := l.map fun b => Value.int .u8 (b.toNat : Int)
theorem bc_append (l m : List UInt8) : bc (l ++ m) = bc l ++ bc m := by simp [bc]
theorem bc_length (l : List UInt8) : (bc l).length = l.length := by simp [bc]
theorem bc_one (c : UInt8) : bc [c] = [Value.int .u8 (c.toNat : Int)] := rfl
theorem bc_cell (l : List UInt8) (j : Nat) (x : UInt8) (h : l[j]? = some x) : (bc l)[j]? = some (.int .u8 (x.toNat : Int)) := by simp [bc, h]
theorem bc_oneCell (l : List UInt8) : ∀ u ∈ bc l, u.oneCell' = true := by
  intro u hu
  simp only [bc, List.mem_map] at hu
  obtain ⟨b, _, rfl⟩ := hu
  rfl

/-- the slice at A reads as these bytes (nothing is said of an empty one) -/
def Rd (w : World) (A : Option Addr) (l : List UInt8) : Prop :=
  l ≠ [] → ∃ b off, A = some ⟨b, off, none⟩ ∧ ∀ j x, l[j]? = some x → w.cell? ⟨b, off + j, none⟩ = some (.int .u8 (x.toNat : Int))
theorem Rd.below {w w' : World} {A : Option Addr} {l : List UInt8} (h : Rd w A l) (hb : Below w.heap.size w w') : Rd w' A l := by
  intro hne
  obtain ⟨b, off, hA, hc⟩ := h hne
  exact ⟨b, off, hA, fun j x hx => by have := hc j x hx; rw [hb.cell (p := ⟨b, off + j, none⟩) (cell_lt this)]; exact this⟩
theorem Rd.at_ {w : World} {A : Option Addr} {l : List UInt8} (h : Rd w A l) {k : Nat} (hk : k < l.length) :
    ∃ b off, A = some ⟨b, off, none⟩ ∧ w.cell? ⟨b, off + k, none⟩ = some (.int .u8 ((l.getD k 0).toNat : Int)) := by
  obtain ⟨b, off, hA, hc⟩ := h (by intro e; subst e; simp at hk)
  refine ⟨b, off, hA, hc k _ ?_⟩
  simp [List.getD, List.getElem?_eq_getElem hk]
theorem add_lit (b off j : Nat) : (⟨b, off, none⟩ : Addr).add j = ⟨b, off + j, none⟩ := by
  unfold Addr.add
  by_cases h : j = 0 <;> simp [h]
/-- what a row of the call's own gives a reader -/
theorem rd_of_own {w : World} {base c n : Nat} {A : Option Addr} {l : List UInt8} (h : w.ownsRow base 5 1 (.slice A n c) n (bc l)) : Rd w A l := by
  intro hne
  have hn : 0 < n := by
    have := h.1
    rw [bc_length] at this
    have := List.length_pos_iff.2 hne
    omega
  rcases h.2 with ⟨h0, hx⟩ | ⟨g, cap, cur, hv, _⟩
  · exfalso
    injection h0 with _ e2 _
    omega
  · injection hv with hA
    subst hA
    refine ⟨g, 0, rfl, fun j x hx => ?_⟩
    have := h.cells (g := g) rfl j _ (bc_cell l j x hx)
    rw [add_lit] at this
    exact this
theorem own_shape {w : World} {base n : Nat} {v : Value} {xs : List Value} (h : w.ownsRow base 5 1 v n xs) : ∃ A c, v = .slice A n c ∧ xs.length = n ∧ n ≤ c ∧ c ≤ maxLen := by
  have hx := h.1
  rcases h.2 with ⟨rfl, hn⟩ | ⟨g, cap, cur, rfl, _, _, h1, h2, _⟩
  · subst hn
    exact ⟨none, 0, rfl, by simpa using hx, Nat.le_refl _, Nat.zero_le _⟩
  · exact ⟨_, cap, rfl, by simpa using hx, h1, h2⟩

/-- the arguments, behind a call that has only made memory -/
theorem trodAll_below {H : Type} {enc : TypeId × Value → H} {P : Program} (hl : laidOutB P = true) {W W' : World} (hb : Below W.heap.size W W') :
    ∀ {ts : List TypeId} {vs : List Value} {ds : List (DataW H)} {ps : List MemPlace}, (ts.all fun t => P.readableRec t && decide (t < P.types.size)) = true →
      DataW.TrodAll enc P W 0 (fun _ => true) true ts vs ds ps → DataW.TrodAll enc P W' 0 (fun b => decide (b < W.heap.size)) true ts vs ds ps
  | [], vs, ds, ps, _, h => by
    obtain ⟨rfl, rfl, rfl⟩ := trodAll_nil h
    exact trodAll_mk0
  | t :: ts, vs, ds, ps, ht, h => by
    have hlt := DataW.TrodAll.lt h
    rw [List.all_cons, Bool.and_eq_true, Bool.and_eq_true] at ht
    obtain ⟨v, vs', d, ds', p, q, rfl, rfl, rfl, h1, h2⟩ := trodAll_cons h
    exact trodAll_cons_mk (Below.trod hl ht.1.1 (of_decide_eq_true ht.1.2) h1 hb fun x hx => hlt x (List.mem_append_left _ hx)) (trodAll_below hl hb ht.2 h2)
set_option maxRecDepth 100000 in
/-- a slice of bytes that came in -/
theorem open_bytes {H : Type} {enc : TypeId × Value → H} {W : World} {base : Nat} {v : Value} {d : DataW H} {p : List MemPlace} (hval : Value.okWide Tryz.prog W .any base 41 v) (h : DataW.Trod enc Tryz.prog W 0 (fun _ => true) true 41 v d p) :
    ∃ (A : Option Addr) (l : List UInt8) (c : Nat), v = .slice A l.length c ∧ l.length ≤ c ∧ c ≤ maxLen ∧ Rd W A l := by
  obtain ⟨a1, len, cap, rfl⟩ := okWide_slice Tryz.underlying41 hval
  obtain ⟨fuel, hf⟩ := h
  have hc : Tryz.prog.cellsOf 5 = 1 := by kernel_rfl
  rcases open_ints Tryz.underlying41 Tryz.underlying5 hc hf with ⟨hcs, hx⟩ | ⟨a, len', cap', zs, hcs, _, hl, hm, hz, hx, hcell, hwz⟩
  · simp [Value.cells] at hcs
    obtain ⟨rfl, rfl, rfl⟩ := hcs
    exact ⟨none, [], 0, rfl, Nat.le_refl _, Nat.zero_le _, fun h => absurd rfl h⟩
  · simp [Value.cells] at hcs
    obtain ⟨rfl, rfl, rfl⟩ := hcs
    simp only [if_true] at hz
    have hlen : ((zs.take len).map fun n => UInt8.ofNat n.toNat).length = len := by simp; omega
    refine ⟨some a, (zs.take len).map fun n => UInt8.ofNat n.toNat, cap, by rw [hlen], by rw [hlen]; exact hl, hm, fun hne => ?_⟩
    have h0 : 0 < len := by
      rcases Nat.eq_zero_or_pos len with h0 | h0
      · subst h0; simp at hne
      · exact h0
    obtain ⟨ab, ao, spot⟩ := a
    have hspot : spot = none := by simpa [Addr.add] using World.cell?_spot (hcell 0 (by omega))
    subst hspot
    refine ⟨ab, ao, rfl, fun j x hx => ?_⟩
    have hj : j < len := by rw [← hlen]; exact (List.getElem?_eq_some_iff.1 hx).1
    have hcj := hcell j (by omega)
    rw [add_lit] at hcj
    rw [hcj]
    have e : zs[j]? = some (zs.getD j 0) := by simp [List.getD, List.getElem?_eq_getElem (show j < zs.length by omega)]
    generalize zs.getD j 0 = z at e ⊢
    rw [List.getElem?_map, List.getElem?_take, if_pos hj, e] at hx
    simp only [Option.map_some, Option.some.injEq] at hx
    subst hx
    have hw := hwz _ (List.mem_of_getElem? e)
    simp [Lit.wf, IntKind.min, IntKind.max, IntKind.signed, IntKind.bits] at hw
    congr 2
    simp only [UInt8.toNat_ofNat']
    omega
end Go.Proofs.YtlemdhfekdiaeaaGreatDoor.Kb
