/- A slice of tokens that came in. -/
import Derived.Test.YtfamljigcffngaaDoorLexBackZ
import Derived.Test.YtfamljigcffngaaDoorKitBytes
import Derived.Deep.Slices
import Derived.Deep.Fields
import Derived.ChangeSame
import Derived.Lib.SmallJoins
namespace Go.Proofs.YtfamljigcffngaaDoor.Wlx
open Go Go.RowKit Go.ChangeShapes Go.WideShapes Go.Deep

section
variable {H : Type} {enc : TypeId × Value → H} {P : Program} {w : World} {base : Nat} {spare : Nat → Bool} {held : Bool}
theorem open_slice_fields {t e : TypeId} {fs : Array Field} {fuel : Nat} {cs : List Value} {x : DataW H × List MemPlace} (ht : P.underlying t = some (.slice e)) (he : P.underlying e = some (.struct fs))
    (hone : oneCellFields P fs = true) (hC : P.cellsOf e = fs.size) (h : DataW.trod enc P w base spare held fuel t cs = some x) :
    (cs = [.slice none 0 0]) ∨
    ∃ (a : Addr) (len cap : Nat), cs = [.slice (some a) len cap] ∧ len ≤ cap ∧ cap ≤ maxLen ∧
      ∀ i, i < len → ∃ (n : Nat), ∀ (j : Nat) (f : Field), fs[j]? = some f → ∃ (v : Value) (y : DataW H × List MemPlace), w.cell? (a.add (i * fs.size + j)) = some v ∧ DataW.trod enc P w base spare held n f.type [v] = some y := by
  rcases open_slice ht h with ⟨h0, _⟩ | ⟨a, len, cap, m, n, D, Pl, hcs, hb, hl, hm, hmm, hx, hi⟩
  · exact .inl h0
  · refine .inr ⟨a, len, cap, hcs, hl, hm, fun i him => ?_⟩
    obtain ⟨cs', hc, ht'⟩ := hi i (by rw [hmm]; split <;> omega)
    rw [hC] at hc
    obtain ⟨ys, n', hn', hy, hlen, hyl, hf⟩ := DataW.trod_struct he ht'
    obtain ⟨_, hcl, hat⟩ := World.cells?_some hc
    refine ⟨n', fun j f hj => ?_⟩
    obtain ⟨ho, hk⟩ := hone_of hone j f hj
    have hjl : j < fs.size := (Array.getElem?_eq_some_iff.1 hj).1
    have hcell := hat j hjl
    have hv : cs'[j]? = some (cs'[j]'(by omega)) := List.getElem?_eq_getElem (by omega)
    have h1 := hf j f hj
    rw [ho, hk] at h1
    have hone' : (cs'.drop j).take 1 = [cs'[j]'(by omega)] := by
      rw [List.drop_eq_getElem_cons (by omega)]
      rfl
    rw [hone'] at h1
    have hys : ys[j]? = some (ys[j]'(by omega)) := List.getElem?_eq_getElem (by omega)
    refine ⟨_, _, ?_, h1.trans hys⟩
    rw [← Go.Deep.add_add, hcell, hv]
end
/-- numbers of the tokens are in their kinds' ranges -/
def FitZ (l : List TZ) : Prop := ∀ x ∈ l, -9223372036854775808 ≤ x.1.2.2 ∧ x.1.2.2 ≤ 9223372036854775807 ∧ -9223372036854775808 ≤ x.2 ∧ x.2 ≤ 9223372036854775807
def CellsZ (W : World) (b o : Nat) (x : TZ) : Prop :=
  W.cell? ⟨b, o, none⟩ = some (.int .u8 x.1.1) ∧ W.cell? ⟨b, o + 1, none⟩ = some (.string ⟨x.1.2.1.toArray⟩) ∧ W.cell? ⟨b, o + 2, none⟩ = some (.int .i64 x.1.2.2) ∧ W.cell? ⟨b, o + 3, none⟩ = some (.int .i64 x.2) ∧
    -9223372036854775808 ≤ x.1.2.2 ∧ x.1.2.2 ≤ 9223372036854775807 ∧ -9223372036854775808 ≤ x.2 ∧ x.2 ≤ 9223372036854775807
theorem addr_add (b o k : Nat) : (⟨b, o, none⟩ : Addr).add k = ⟨b, o + k, none⟩ := by unfold Addr.add; by_cases h : k = 0 <;> simp [h]
set_option maxRecDepth 100000 in
theorem open_toks {H : Type} {enc : TypeId × Value → H} {W : World} {base : Nat} {v : Value} {d : DataW H} {p : List MemPlace} (hval : Value.okWide Tryd.prog W .any base 29 v) (h : DataW.Trod enc Tryd.prog W 0 (fun _ => true) true 29 v d p) :
    ∃ (A : Option Addr) (l : List TZ) (c : Nat), v = .slice A l.length c ∧ l.length ≤ c ∧ c ≤ maxLen ∧ RdZ W A l ∧ FitZ l := by
  obtain ⟨a1, len, cap, rfl⟩ := okWide_slice Tryd.underlying29 hval
  obtain ⟨fuel, hf⟩ := h
  rcases open_slice_fields Tryd.underlying29 Tryd.underlying24 (by kernel_rfl) (by kernel_rfl) hf with hcs | ⟨a, len', cap', hcs, hl, hm, hcell⟩
  · simp [Value.cells] at hcs
    obtain ⟨rfl, rfl, rfl⟩ := hcs
    exact ⟨none, [], 0, rfl, Nat.le_refl _, Nat.zero_le _, fun h => absurd rfl h, fun x hx => by cases hx⟩
  · simp [Value.cells] at hcs
    obtain ⟨rfl, rfl, rfl⟩ := hcs
    obtain ⟨ab, ao, spot⟩ := a
    have hsp : 0 < len → spot = none := fun h0 => by
      obtain ⟨n, hc⟩ := hcell 0 h0
      obtain ⟨v0, y0, c0, _⟩ := hc 0 _ rfl
      simpa [Addr.add] using World.cell?_spot c0
    have key : ∀ i, i < len → ∃ x : TZ, spot = none ∧ CellsZ W ab (ao + i * 4) x := by
      intro i hi
      obtain ⟨n, hc⟩ := hcell i hi
      obtain ⟨v0, y0, c0, t0⟩ := hc 0 _ rfl
      obtain ⟨v1, y1, c1, t1⟩ := hc 1 _ rfl
      obtain ⟨v2, y2, c2, t2⟩ := hc 2 _ rfl
      obtain ⟨v3, y3, c3, t3⟩ := hc 3 _ rfl
      obtain ⟨zk, e0, rfl, wk⟩ := DataW.trod_int Tryd.underlying22 t0
      obtain ⟨x, e1, rfl, hx⟩ := DataW.trod_string Tryd.underlying9 t1
      obtain ⟨N, e2, rfl, wN⟩ := DataW.trod_int Tryd.underlying2 t2
      obtain ⟨A, e3, rfl, wA⟩ := DataW.trod_int Tryd.underlying3 t3
      simp only [List.cons.injEq, and_true] at e0 e1 e2 e3
      subst e0 e1 e2 e3
      have wk : 0 ≤ zk ∧ zk ≤ 255 := by simpa [Lit.wf, IntKind.min, IntKind.max, IntKind.signed, IntKind.bits] using wk
      have wN : -9223372036854775808 ≤ N ∧ N ≤ 9223372036854775807 := by simpa [Lit.wf, IntKind.min, IntKind.max, IntKind.signed, IntKind.bits] using wN
      have wA : -9223372036854775808 ≤ A ∧ A ≤ 9223372036854775807 := by simpa [Lit.wf, IntKind.min, IntKind.max, IntKind.signed, IntKind.bits] using wA
      obtain ⟨k, rfl⟩ : ∃ m : Nat, zk = m := ⟨zk.toNat, by omega⟩
      have hspot := hsp (by omega)
      subst hspot
      rw [addr_add] at c0 c1 c2 c3
      exact ⟨((k, x.data.toList, N), A), rfl, c0, c1, c2, c3, wN.1, wN.2, wA.1, wA.2⟩
    obtain ⟨f, hf'⟩ := choose_lt key
    have hlen : ((List.range len).map f).length = len := by simp
    refine ⟨some ⟨ab, ao, spot⟩, (List.range len).map f, cap, by rw [hlen], by rw [hlen]; exact hl, hm, fun hne => ?_, fun x hx => ?_⟩
    · have h0 : 0 < len := by
        rcases Nat.eq_zero_or_pos len with h0 | h0
        · subst h0; simp at hne
        · exact h0
      obtain ⟨rfl, _⟩ := hf' 0 h0
      refine ⟨ab, ao, rfl, fun j x hx => ?_⟩
      have hj : j < len := by rw [← hlen]; exact (List.getElem?_eq_some_iff.1 hx).1
      rw [List.getElem?_map, List.getElem?_range hj] at hx
      simp only [Option.map_some, Option.some.injEq] at hx
      subst hx
      obtain ⟨_, a0, a1, a2, a3, _⟩ := hf' j hj
      exact ⟨a0, a1, a2, a3⟩
    · obtain ⟨j, hj, rfl⟩ := List.mem_map.1 hx
      obtain ⟨_, _, _, _, _, b0, b1, b2, b3⟩ := hf' j (List.mem_range.1 hj)
      exact ⟨b0, b1, b2, b3⟩
end Go.Proofs.YtfamljigcffngaaDoor.Wlx
