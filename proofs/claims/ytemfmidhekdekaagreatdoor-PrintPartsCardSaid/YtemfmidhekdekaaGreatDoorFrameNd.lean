/- A row of nodes that came in, with all that is told of it (chapter 08). -/
import Derived.Test.YtemfmidhekdekaaGreatDoorTreeVd
import Derived.SizedLaws
namespace Go.Proofs.YtemfmidhekdekaaGreatDoor.Wtr
open Go Go.RowKit Go.ChangeShapes Go.WideShapes Go.Deep Go.Proofs.YtemfmidhekdekaaGreatDoor.Kb

theorem mem_weightsAll {H : Type} {P : Program} {e : TypeId} {d : DataW H} {n : Nat} (hn : n ∈ d.weights P e) : ∀ {elems : List (DataW H)} {i : Nat}, elems[i]? = some d → n ∈ DataW.weightsAll P e elems
  | [], _, h => by simp at h
  | d0 :: r, 0, h => by
    simp only [List.getElem?_cons_zero, Option.some.injEq] at h
    subst h
    simp only [DataW.weightsAll, List.mem_append]
    exact .inl hn
  | d0 :: r, i + 1, h => by
    simp only [List.getElem?_cons_succ] at h
    simp only [DataW.weightsAll, List.mem_append]
    exact .inr (mem_weightsAll hn h)
theorem node_at {H : Type} {enc : TypeId × Value → H} {W : World} {base : Nat} {spare : Nat → Bool} {held : Bool} {n : Nat} {cs : List Value} {D : DataW H} {Pl : List MemPlace} (h : DataW.trod enc Tryz.prog W base spare held n 32 cs = some (D, Pl)) :
    ∃ x : Ptr.Nd, cs = ndC x ∧ x.1 ≤ 255 ∧ x.2.1.length ≤ 9223372036854775807 ∧ x.2.2.1.length ≤ 9223372036854775807 ∧ D = .agg [.lit (.int .u8 x.1), .lit (.string x.2.1), .lit (.string x.2.2.1), .lit (.int .i64 x.2.2.2)] := by
  have k0 : Tryz.prog.cellsOf 30 = 1 := by kernel_rfl
  have k1 : Tryz.prog.cellsOf 9 = 1 := by kernel_rfl
  have k3 : Tryz.prog.cellsOf 3 = 1 := by kernel_rfl
  have k4 : Tryz.prog.cellsOf 32 = 4 := by kernel_rfl
  obtain ⟨xs, n', _, hxd, hcl, hlen, hf⟩ := DataW.trod_struct Tryz.underlying32 h
  rw [k4] at hcl
  rcases cs with _ | ⟨a, _ | ⟨b, _ | ⟨c, _ | ⟨d, _ | ⟨e, r⟩⟩⟩⟩⟩ <;> simp only [List.length_nil, List.length_cons] at hcl <;> try omega
  have hlen : xs.length = 4 := hlen
  rcases xs with _ | ⟨x0, _ | ⟨x1, _ | ⟨x2, _ | ⟨x3, _ | ⟨x4, r⟩⟩⟩⟩⟩ <;> simp only [List.length_nil, List.length_cons] at hlen <;> try omega
  have h0 : DataW.trod enc Tryz.prog W base spare held n' 30 ((List.drop 0 [a, b, c, d]).take (Tryz.prog.cellsOf 30)) = some x0 := hf 0 _ rfl
  have h1 : DataW.trod enc Tryz.prog W base spare held n' 9 ((List.drop 1 [a, b, c, d]).take (Tryz.prog.cellsOf 9)) = some x1 := hf 1 _ rfl
  have h2 : DataW.trod enc Tryz.prog W base spare held n' 9 ((List.drop 2 [a, b, c, d]).take (Tryz.prog.cellsOf 9)) = some x2 := hf 2 _ rfl
  have h3 : DataW.trod enc Tryz.prog W base spare held n' 3 ((List.drop 3 [a, b, c, d]).take (Tryz.prog.cellsOf 3)) = some x3 := hf 3 _ rfl
  rw [k0] at h0
  rw [k1] at h1 h2
  rw [k3] at h3
  obtain ⟨zk, e0, y0, wk⟩ := DataW.trod_int Tryz.underlying30 (show DataW.trod enc Tryz.prog W base spare held n' 30 [a] = some x0 from h0)
  obtain ⟨s1, e1, y1, w1⟩ := DataW.trod_string Tryz.underlying9 (show DataW.trod enc Tryz.prog W base spare held n' 9 [b] = some x1 from h1)
  obtain ⟨s2, e2, y2, w2⟩ := DataW.trod_string Tryz.underlying9 (show DataW.trod enc Tryz.prog W base spare held n' 9 [c] = some x2 from h2)
  obtain ⟨zp, e3, y3, _⟩ := DataW.trod_int Tryz.underlying3 (show DataW.trod enc Tryz.prog W base spare held n' 3 [d] = some x3 from h3)
  simp only [List.cons.injEq, and_true] at e0 e1 e2 e3
  subst e0 e1 e2 e3 y0 y1 y2 y3
  have wk : 0 ≤ zk ∧ zk ≤ 255 := by simpa [Lit.wf, IntKind.min, IntKind.max, IntKind.signed, IntKind.bits] using wk
  obtain ⟨k, rfl⟩ : ∃ m : Nat, zk = m := ⟨zk.toNat, by omega⟩
  have hx' : s1.data.toList.length ≤ 9223372036854775807 := by rw [Array.length_toList]; exact w1
  have hy' : s2.data.toList.length ≤ 9223372036854775807 := by rw [Array.length_toList]; exact w2
  simp only [Prod.mk.injEq] at hxd
  exact ⟨(k, s1.data.toList, s2.data.toList, zp), rfl, by show k ≤ 255; omega, hx', hy', hxd.1⟩
theorem bytes_node : Tryz.prog.bytesOf 32 = 48 := by kernel_rfl
set_option maxRecDepth 100000 in
theorem open_nodesW {H : Type} {enc : TypeId × Value → H} {W : World} {base : Nat} {v : Value} {d : DataW H} {p : List MemPlace} (hval : Value.okWide Tryz.prog W .any base 23 v) (h : DataW.Trod enc Tryz.prog W 0 (fun _ => true) true 23 v d p) :
    ∃ (A : Option Addr) (l : List Ptr.Nd) (c : Nat), v = .slice A l.length c ∧ l.length ≤ c ∧ (A = none → c = 0) ∧ RdN W A l ∧ FitP l ∧ ((d.weights Tryz.prog 23).all (· ≤ reachBytes) = true → (∀ i, (Ptr.nam l i).length ≤ 140737488355328 ∧ (Ptr.val l i).length ≤ 140737488355328) ∧ l.length ≤ 2999999999999) := by
  obtain ⟨a1, len, cap, rfl⟩ := okWide_slice Tryz.underlying23 hval
  obtain ⟨fuel, hf⟩ := h
  rcases open_slice Tryz.underlying23 hf with ⟨hcs, _⟩ | ⟨a, len', cap', m, n, D, Pl, hcs, _, hl, hm, hmm, hx, hi⟩
  · simp [Value.cells] at hcs
    obtain ⟨rfl, rfl, rfl⟩ := hcs
    refine ⟨none, [], 0, rfl, Nat.le_refl _, fun _ => rfl, fun h => absurd rfl h, fun i => ?_, fun _ => ⟨fun i => ?_, by simp⟩⟩
    · simp [Ptr.nam, Ptr.val, Ptr.kin, Ptr.nd0]
    · simp [Ptr.nam, Ptr.val, Ptr.nd0]
  · simp [Value.cells] at hcs
    obtain ⟨rfl, rfl, rfl⟩ := hcs
    have k4 : Tryz.prog.cellsOf 32 = 4 := by kernel_rfl
    have key : ∀ i, i < len → ∃ x : Ptr.Nd, (∀ j u, j < 4 → (ndC x)[j]? = some u → W.cell? (a.add (i * 4 + j)) = some u) ∧ x.1 ≤ 255 ∧ x.2.1.length ≤ 9223372036854775807 ∧ x.2.2.1.length ≤ 9223372036854775807 ∧ D i = .agg [.lit (.int .u8 x.1), .lit (.string x.2.1), .lit (.string x.2.2.1), .lit (.int .i64 x.2.2.2)] := by
      intro i hil
      obtain ⟨cs', hc, ht⟩ := hi i (by rw [hmm]; split <;> omega)
      rw [k4] at hc
      obtain ⟨x, rfl, h1, h2, h3, h4⟩ := node_at ht
      refine ⟨x, fun j u hj hu => ?_, h1, h2, h3, h4⟩
      obtain ⟨_, _, hat⟩ := World.cells?_some hc
      have := hat j hj
      rw [← Go.Deep.add_add]
      rw [this]
      exact hu
    obtain ⟨f, hf'⟩ := choose_lt key
    have hlen : ((List.range len).map f).length = len := by simp
    have hget : ∀ i, i < len → ((List.range len).map f)[i]? = some (f i) := fun i hi => by rw [List.getElem?_map, List.getElem?_range hi]; rfl
    obtain ⟨ab, ao, spot⟩ := a
    have hsp : 0 < len → spot = none := fun h0 => by
      have := (hf' 0 h0).1 0 _ (by omega) rfl
      simpa [Addr.add] using World.cell?_spot this
    refine ⟨some ⟨ab, ao, spot⟩, (List.range len).map f, cap, by rw [hlen], by rw [hlen]; exact hl, fun h => (by cases h), fun hne => ?_, fun i => ?_, fun hw => ⟨fun i => ?_, ?_⟩⟩
    · have h0 : 0 < len := by
        rcases Nat.eq_zero_or_pos len with h0 | h0
        · subst h0; simp at hne
        · exact h0
      have hspot := hsp h0
      subst hspot
      refine ⟨ab, ao, rfl, fun j x hx => ?_⟩
      have hj : j < len := by rw [← hlen]; exact (List.getElem?_eq_some_iff.1 hx).1
      rw [hget j hj] at hx
      cases hx
      have hc := (hf' j hj).1
      simp only [addr_add] at hc
      exact ⟨by have := hc 0 _ (by omega) rfl; simpa using this, by have := hc 1 _ (by omega) rfl; rwa [← Nat.add_assoc] at this, by have := hc 2 _ (by omega) rfl; rwa [← Nat.add_assoc] at this, by have := hc 3 _ (by omega) rfl; rwa [← Nat.add_assoc] at this⟩
    · by_cases hi : i < len
      · have h := hf' i hi
        unfold Ptr.nam Ptr.val Ptr.kin
        rw [List.getD_eq_getElem?_getD, hget i hi]
        exact ⟨h.2.2.1, h.2.2.2.1, h.2.1⟩
      · unfold Ptr.nam Ptr.val Ptr.kin
        rw [List.getD_eq_getElem?_getD, List.getElem?_eq_none (by rw [hlen]; omega)]
        simp [Ptr.nd0]
    · by_cases hi : i < len
      · have h := (hf' i hi).2.2.2.2
        have hxd : d = .slice ((List.range len).map D) ((List.range (m - len)).map fun j => D (len + j)) := congrArg Prod.fst hx
        have hmem : ∀ n, n ∈ (D i).weights Tryz.prog 32 → n ≤ reachBytes := by
          intro n hn
          have h1 := mem_weightsAll hn (elems := (List.range len).map D) (i := i) (by rw [List.getElem?_map, List.getElem?_range hi]; rfl)
          have h2 : n ∈ d.weights Tryz.prog 23 := by
            rw [hxd]
            simp only [DataW.weights, Tryz.underlying23, List.mem_cons, List.mem_append]
            exact .inr (.inl h1)
          simpa using List.all_eq_true.1 hw n h2
        rw [h] at hmem
        simp only [DataW.weights, Tryz.underlying32, DataW.weightsEach, List.map_cons, List.map_nil, List.mem_append, List.mem_cons, List.mem_nil_iff, or_false, false_or, List.append_nil] at hmem
        have r := reachBytes_lt
        have r2 : (2 : Nat) ^ 47 = 140737488355328 := by decide
        unfold Ptr.nam Ptr.val
        rw [List.getD_eq_getElem?_getD, hget i hi]
        have q1 := hmem (f i).2.1.length (by simp)
        have q2 := hmem (f i).2.2.1.length (by simp)
        show (f i).2.1.length ≤ _ ∧ (f i).2.2.1.length ≤ _
        omega
      · unfold Ptr.nam Ptr.val
        rw [List.getD_eq_getElem?_getD, List.getElem?_eq_none (by rw [hlen]; omega)]
        simp [Ptr.nd0]
    · rw [hlen]
      have hxd : d = .slice ((List.range len).map D) ((List.range (m - len)).map fun j => D (len + j)) := congrArg Prod.fst hx
      have h2 : (len + (m - len)) * 48 ∈ d.weights Tryz.prog 23 := by
        rw [hxd]
        simp only [DataW.weights, Tryz.underlying23, bytes_node, List.length_map, List.length_range, List.mem_cons, List.mem_append]
        exact .inl trivial
      have h3 : (len + (m - len)) * 48 ≤ reachBytes := by simpa using List.all_eq_true.1 hw _ h2
      have r := reachBytes_lt
      have r2 : (2 : Nat) ^ 47 = 140737488355328 := by decide
      omega
end Go.Proofs.YtemfmidhekdekaaGreatDoor.Wtr
