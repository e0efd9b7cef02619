/- Words for rows of nodes (chapter 06): nodes as cells; a row that came in. -/
import Derived.Test.YtlemdhfekdiaeaaGreatDoorTreePlain
import Derived.Test.YtlemdhfekdiaeaaGreatDoorKitBytes
import Derived.Deep.Slices
import Derived.Deep.Fields
import Derived.ChangeSame
import Derived.Lib.SmallJoins
import Derived.Laws.AppendOwn
import Derived.Deep.AppendLies
namespace Go.Proofs.YtlemdhfekdiaeaaGreatDoor.Wtr
open Go Go.RowKit Go.ChangeShapes Go.WideShapes Go.Deep Go.Proofs.YtlemdhfekdiaeaaGreatDoor.Kb

section
variable {H : Type} {enc : TypeId × Value → H} {P : Program} {w : World} {base : Nat} {spare : Nat → Bool} {held : Bool}
theorem open_slice_fields {t e : TypeId} {fs : Array Field} {fuel : Nat} {cs : List Value} {x : DataW H × List MemPlace} (ht : P.underlying t = some (.slice e)) (he : P.underlying e = some (.struct fs))
    (hone : oneCellFields P fs = true) (hC : P.cellsOf e = fs.size) (h : DataW.trod enc P w base spare held fuel t cs = some x) :
    (cs = [.slice none 0 0]) ∨
    ∃ (a : Addr) (len cap : Nat), cs = [.slice (some a) len cap] ∧ len ≤ cap ∧ cap ≤ maxLen ∧
      ∀ i, i < len → ∃ (n : Nat), ∀ (j : Nat) (f : Field), fs[j]? = some f → ∃ (v : Value) (y : DataW H × List MemPlace), w.cell? (a.add (i * fs.size + j)) = some v ∧ DataW.trod enc P w base spare held n f.type [v] = some y := by
  rcases open_slice ht h with ⟨h0, _⟩ | ⟨a, len, cap, m, n, D, Pl, hcs, hb, hl, hm, hmm, hx, hi⟩
  · exact .inl h0
  · refine .inr ⟨a, len, cap, hcs, hl, hm, fun i him => ?_⟩
    obtain ⟨cs', hc, ht'⟩ := hi i (by rw [hmm]; split <;> omega)
    rw [hC] at hc
    obtain ⟨ys, n', hn', hy, hlen, hyl, hf⟩ := DataW.trod_struct he ht'
    obtain ⟨_, hcl, hat⟩ := World.cells?_some hc
    refine ⟨n', fun j f hj => ?_⟩
    obtain ⟨ho, hk⟩ := hone_of hone j f hj
    have hjl : j < fs.size := (Array.getElem?_eq_some_iff.1 hj).1
    have hcell := hat j hjl
    have hv : cs'[j]? = some (cs'[j]'(by omega)) := List.getElem?_eq_getElem (by omega)
    have h1 := hf j f hj
    rw [ho, hk] at h1
    have hone' : (cs'.drop j).take 1 = [cs'[j]'(by omega)] := by
      rw [List.drop_eq_getElem_cons (by omega)]
      rfl
    rw [hone'] at h1
    have hys : ys[j]? = some (ys[j]'(by omega)) := List.getElem?_eq_getElem (by omega)
    refine ⟨_, _, ?_, h1.trans hys⟩
    rw [← Go.Deep.add_add, hcell, hv]
end
/-- nodes as cells -/
def ndC (x : Ptr.Nd) : List Value := [.int .u8 x.1, .string ⟨x.2.1.toArray⟩, .string ⟨x.2.2.1.toArray⟩, .int .i64 x.2.2.2]
def ndsC (l : List Ptr.Nd) : List Value := l.flatMap ndC
theorem ndsC_append (l m : List Ptr.Nd) : ndsC (l ++ m) = ndsC l ++ ndsC m := by simp [ndsC]
theorem ndsC_length (l : List Ptr.Nd) : (ndsC l).length = l.length * 4 := by
  induction l with
  | nil => rfl
  | cons x l ih => rw [show ndsC (x :: l) = ndC x ++ ndsC l from rfl, List.length_append, ih]; simp [ndC]; omega
theorem ndsC_get : ∀ (l : List Ptr.Nd) (j : Nat) (x : Ptr.Nd) (i : Nat), l[j]? = some x → i < 4 → (ndsC l)[j * 4 + i]? = (ndC x)[i]?
  | [], j, x, i, h, _ => by simp at h
  | y :: l, 0, x, i, h, hi => by
    simp only [List.getElem?_cons_zero, Option.some.injEq] at h
    subst h
    rw [show ndsC (y :: l) = ndC y ++ ndsC l from rfl, Nat.zero_mul, Nat.zero_add, List.getElem?_append_left (by simp [ndC]; omega)]
  | y :: l, j + 1, x, i, h, hi => by
    rw [List.getElem?_cons_succ] at h
    rw [show ndsC (y :: l) = ndC y ++ ndsC l from rfl, List.getElem?_append_right (by simp [ndC]; omega), ← ndsC_get l j x i h hi]
    congr 1
    simp [ndC]
    omega
theorem ndsC_one (l : List Ptr.Nd) : ∀ u ∈ ndsC l, u.oneCell' = true := by
  intro u hu
  obtain ⟨x, _, hx⟩ := List.mem_flatMap.1 hu
  simp only [ndC, List.mem_cons, List.mem_nil_iff, or_false] at hx
  rcases hx with rfl | rfl | rfl | rfl <;> rfl
/-- the four cells of a node -/
def NdAt (w : World) (b o : Nat) (x : Ptr.Nd) : Prop :=
  w.cell? ⟨b, o, none⟩ = some (.int .u8 x.1) ∧ w.cell? ⟨b, o + 1, none⟩ = some (.string ⟨x.2.1.toArray⟩) ∧ w.cell? ⟨b, o + 2, none⟩ = some (.string ⟨x.2.2.1.toArray⟩) ∧ w.cell? ⟨b, o + 3, none⟩ = some (.int .i64 x.2.2.2)
/-- the slice at A reads as these nodes (nothing is said of an empty one) -/
def RdN (w : World) (A : Option Addr) (l : List Ptr.Nd) : Prop :=
  l ≠ [] → ∃ b off, A = some ⟨b, off, none⟩ ∧ ∀ j x, l[j]? = some x → NdAt w b (off + j * 4) x
theorem cell_keep {w w' : World} {g i : Nat} {v : Value} (hb : Below w.heap.size w w') (h : w.cell? ⟨g, i, none⟩ = some v) : w'.cell? ⟨g, i, none⟩ = some v := by
  rw [hb.cell (p := ⟨g, i, none⟩) (Kb.cell_lt h)]
  exact h
theorem NdAt.below {w w' : World} {b o : Nat} {x : Ptr.Nd} (h : NdAt w b o x) (hb : Below w.heap.size w w') : NdAt w' b o x :=
  ⟨cell_keep hb h.1, cell_keep hb h.2.1, cell_keep hb h.2.2.1, cell_keep hb h.2.2.2⟩
theorem RdN.below {w w' : World} {A : Option Addr} {l : List Ptr.Nd} (h : RdN w A l) (hb : Below w.heap.size w w') : RdN w' A l := by
  intro hne
  obtain ⟨b, off, hA, hc⟩ := h hne
  exact ⟨b, off, hA, fun j x hx => (hc j x hx).below hb⟩
theorem RdN.drewN {w : World} {A : Option Addr} {l : List Ptr.Nd} (h : RdN w A l) (n : Nat) : RdN (w.drewN n) A l := by
  induction n generalizing w with
  | zero => exact h
  | succ n ih => exact ih (w := w.drew) h
theorem nd_get {l : List Ptr.Nd} {i : Nat} (h : i < l.length) : l[i]? = some (Ptr.kin l i, Ptr.nam l i, Ptr.val l i, Ptr.par l i) := by
  unfold Ptr.kin Ptr.nam Ptr.val Ptr.par
  rw [List.getD_eq_getElem?_getD, List.getElem?_eq_getElem h]
  rfl
/-- node i's cells -/
theorem RdN.at_ {w : World} {A : Option Addr} {l : List Ptr.Nd} (h : RdN w A l) {i : Nat} (hi : i < l.length) :
    ∃ b off, A = some ⟨b, off, none⟩ ∧ NdAt w b (off + i * 4) (Ptr.kin l i, Ptr.nam l i, Ptr.val l i, Ptr.par l i) := by
  obtain ⟨b, off, hA, hc⟩ := h (by intro e; subst e; simp at hi)
  exact ⟨b, off, hA, hc i _ (nd_get hi)⟩
/-- node i's cells in a row whose address is known -/
theorem RdN.cells {w : World} {b off : Nat} {l : List Ptr.Nd} (h : RdN w (some ⟨b, off, none⟩) l) {i : Nat} (hi : i < l.length) : NdAt w b (off + i * 4) (Ptr.kin l i, Ptr.nam l i, Ptr.val l i, Ptr.par l i) := by
  obtain ⟨b', off', e, hc⟩ := h.at_ hi
  cases e
  exact hc
theorem rdn_of_own {w : World} {base n c : Nat} {A : Option Addr} {l : List Ptr.Nd} (h : w.ownsRow base 35 4 (.slice A n c) n (ndsC l)) : RdN w A l := by
  intro hne
  have hl := h.1
  rw [ndsC_length] at hl
  have hp := List.length_pos_iff.2 hne
  rcases h.2 with ⟨e, hx⟩ | ⟨g, cap, cur, hv, _⟩
  · exfalso; omega
  · injection hv with hA
    subst hA
    refine ⟨g, 0, rfl, fun j x hx => ?_⟩
    have hc := fun i u hi (hu : (ndC x)[i]? = some u) => h.cells (g := g) rfl (j * 4 + i) u (by rw [ndsC_get l j x i hx hi]; exact hu)
    simp only [Kb.add_lit, Nat.zero_add] at hc
    simp only [Nat.zero_add]
    exact ⟨hc 0 _ (by omega) rfl, hc 1 _ (by omega) rfl, hc 2 _ (by omega) rfl, hc 3 _ (by omega) rfl⟩
theorem rdn_lit (w : World) (L : List Ptr.Nd) (t : TypeId) : RdN (w.alloc (.cells (ndsC L).toArray t)) (some ⟨w.heap.size, 0, none⟩) L := by
  intro _
  refine ⟨w.heap.size, 0, rfl, fun j x hx => ?_⟩
  have hc := fun i u hi (hu : (ndC x)[i]? = some u) => (show (w.alloc (.cells (ndsC L).toArray t)).cell? ⟨w.heap.size, j * 4 + i, none⟩ = some u by
    rw [World.cell?_alloc_new, List.getElem?_toArray, ndsC_get L j x i hx hi]
    exact hu)
  simp only [Nat.zero_add]
  exact ⟨hc 0 _ (by omega) rfl, hc 1 _ (by omega) rfl, hc 2 _ (by omega) rfl, hc 3 _ (by omega) rfl⟩
theorem infoN : (Tryz.prog.info? 35).map (fun i => (i.zero, i.size, i.bytes)) = some (some (.agg #[.int .u8 0, .string ⟨#[]⟩, .string ⟨#[]⟩, .int .i64 0]), 4, 48) := by kernel_rfl
/-- places and texts of nodes that came in -/
def FitN (l : List Ptr.Nd) : Prop := ∀ x ∈ l, x.1 ≤ 255 ∧ x.2.1.length ≤ 9223372036854775807 ∧ x.2.2.1.length ≤ 9223372036854775807 ∧ -9223372036854775808 ≤ x.2.2.2 ∧ x.2.2.2 ≤ 9223372036854775807
def CellsN (W : World) (b o : Nat) (x : Ptr.Nd) : Prop := NdAt W b o x ∧ x.1 ≤ 255 ∧ x.2.1.length ≤ 9223372036854775807 ∧ x.2.2.1.length ≤ 9223372036854775807 ∧ -9223372036854775808 ≤ x.2.2.2 ∧ x.2.2.2 ≤ 9223372036854775807
theorem addr_add (b o k : Nat) : (⟨b, o, none⟩ : Addr).add k = ⟨b, o + k, none⟩ := by unfold Addr.add; by_cases h : k = 0 <;> simp [h]
set_option maxRecDepth 100000 in
theorem open_nodes {H : Type} {enc : TypeId × Value → H} {W : World} {base : Nat} {v : Value} {d : DataW H} {p : List MemPlace} (hval : Value.okWide Tryz.prog W .any base 23 v) (h : DataW.Trod enc Tryz.prog W 0 (fun _ => true) true 23 v d p) :
    ∃ (A : Option Addr) (l : List Ptr.Nd) (c : Nat), v = .slice A l.length c ∧ l.length ≤ c ∧ c ≤ maxLen ∧ RdN W A l ∧ FitN l := by
  obtain ⟨a1, len, cap, rfl⟩ := okWide_slice Tryz.underlying23 hval
  obtain ⟨fuel, hf⟩ := h
  rcases open_slice_fields Tryz.underlying23 Tryz.underlying35 (by kernel_rfl) (by kernel_rfl) hf with hcs | ⟨a, len', cap', hcs, hl, hm, hcell⟩
  · simp [Value.cells] at hcs
    obtain ⟨rfl, rfl, rfl⟩ := hcs
    exact ⟨none, [], 0, rfl, Nat.le_refl _, Nat.zero_le _, fun h => absurd rfl h, fun x hx => by cases hx⟩
  · simp [Value.cells] at hcs
    obtain ⟨rfl, rfl, rfl⟩ := hcs
    obtain ⟨ab, ao, spot⟩ := a
    have hsp : 0 < len → spot = none := fun h0 => by
      obtain ⟨n, hc⟩ := hcell 0 h0
      obtain ⟨v0, y0, c0, _⟩ := hc 0 _ rfl
      simpa [Addr.add] using World.cell?_spot c0
    have key : ∀ i, i < len → ∃ x : Ptr.Nd, spot = none ∧ CellsN W ab (ao + i * 4) x := by
      intro i hi
      obtain ⟨n, hc⟩ := hcell i hi
      obtain ⟨v0, y0, c0, t0⟩ := hc 0 _ rfl
      obtain ⟨v1, y1, c1, t1⟩ := hc 1 _ rfl
      obtain ⟨v2, y2, c2, t2⟩ := hc 2 _ rfl
      obtain ⟨v3, y3, c3, t3⟩ := hc 3 _ rfl
      obtain ⟨zk, e0, rfl, wk⟩ := DataW.trod_int Tryz.underlying33 t0
      obtain ⟨x, e1, rfl, hx⟩ := DataW.trod_string Tryz.underlying9 t1
      obtain ⟨y, e2, rfl, hy⟩ := DataW.trod_string Tryz.underlying9 t2
      obtain ⟨A, e3, rfl, wA⟩ := DataW.trod_int Tryz.underlying3 t3
      simp only [List.cons.injEq, and_true] at e0 e1 e2 e3
      subst e0 e1 e2 e3
      have wk : 0 ≤ zk ∧ zk ≤ 255 := by simpa [Lit.wf, IntKind.min, IntKind.max, IntKind.signed, IntKind.bits] using wk
      have wA : -9223372036854775808 ≤ A ∧ A ≤ 9223372036854775807 := by simpa [Lit.wf, IntKind.min, IntKind.max, IntKind.signed, IntKind.bits] using wA
      obtain ⟨k, rfl⟩ : ∃ m : Nat, zk = m := ⟨zk.toNat, by omega⟩
      have hspot := hsp (by omega)
      subst hspot
      rw [addr_add] at c0 c1 c2 c3
      have hx' : x.data.toList.length ≤ 9223372036854775807 := by rw [Array.length_toList]; exact hx
      have hy' : y.data.toList.length ≤ 9223372036854775807 := by rw [Array.length_toList]; exact hy
      exact ⟨(k, x.data.toList, y.data.toList, A), rfl, ⟨c0, c1, c2, c3⟩, by omega, hx', hy', wA.1, wA.2⟩
    obtain ⟨f, hf'⟩ := choose_lt key
    have hlen : ((List.range len).map f).length = len := by simp
    refine ⟨some ⟨ab, ao, spot⟩, (List.range len).map f, cap, by rw [hlen], by rw [hlen]; exact hl, hm, fun hne => ?_, fun x hx => ?_⟩
    · have h0 : 0 < len := by
        rcases Nat.eq_zero_or_pos len with h0 | h0
        · subst h0; simp at hne
        · exact h0
      obtain ⟨rfl, _⟩ := hf' 0 h0
      refine ⟨ab, ao, rfl, fun j x hx => ?_⟩
      have hj : j < len := by rw [← hlen]; exact (List.getElem?_eq_some_iff.1 hx).1
      rw [List.getElem?_map, List.getElem?_range hj] at hx
      simp only [Option.map_some, Option.some.injEq] at hx
      subst hx
      exact (hf' j hj).2.1
    · obtain ⟨j, hj, rfl⟩ := List.mem_map.1 hx
      exact (hf' j (List.mem_range.1 hj)).2.2
end Go.Proofs.YtlemdhfekdiaeaaGreatDoor.Wtr
