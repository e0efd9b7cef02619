/- A row of items that came in, with all that is told of it (chapter 31). -/
import Derived.Test.YtakccaldcolbmaaGreatDoorLinesSw
import Derived.SizedLaws
import Derived.OpenShut
import Derived.Deep.DeepHandedRow
namespace Go.Proofs.YtakccaldcolbmaaGreatDoor.Wln
open Go Go.RowKit Go.ChangeShapes Go.WideShapes Go.Deep Go.Proofs.YtakccaldcolbmaaGreatDoor.Kb

theorem mem_weightsAll {H : Type} {P : Program} {e : TypeId} {d : DataW H} {n : Nat} (hn : n ∈ d.weights P e) : ∀ {elems : List (DataW H)} {i : Nat}, elems[i]? = some d → n ∈ DataW.weightsAll P e elems
  | [], _, h => by simp at h
  | d0 :: r, 0, h => by
    simp only [List.getElem?_cons_zero, Option.some.injEq] at h
    subst h
    simp only [DataW.weightsAll, List.mem_append]
    exact .inl hn
  | d0 :: r, i + 1, h => by
    simp only [List.getElem?_cons_succ] at h
    simp only [DataW.weightsAll, List.mem_append]
    exact .inr (mem_weightsAll hn h)
theorem addr_add (b o k : Nat) : (⟨b, o, none⟩ : Addr).add k = ⟨b, o + k, none⟩ := by unfold Addr.add; by_cases h : k = 0 <;> simp [h]
theorem item_at {H : Type} {enc : TypeId × Value → H} {W : World} {base : Nat} {spare : Nat → Bool} {held : Bool} {n : Nat} {cs : List Value} {D : DataW H} {Pl : List MemPlace} (h : DataW.trod enc Tryz.prog W base spare held n 26 cs = some (D, Pl)) :
    ∃ x : It, cs = itC x ∧ x.1 < 256 ∧ x.2.1 < 256 ∧ (-9223372036854775808 ≤ x.2.2.2.2 ∧ x.2.2.2.2 ≤ 9223372036854775807) ∧ D = .agg [.lit (.int .u8 x.1), .lit (.int .u8 x.2.1), .lit (.string x.2.2.1), .lit (.string x.2.2.2.1), .lit (.int .i64 x.2.2.2.2)] := by
  have k0 : Tryz.prog.cellsOf 23 = 1 := by kernel_rfl
  have k1 : Tryz.prog.cellsOf 24 = 1 := by kernel_rfl
  have k2 : Tryz.prog.cellsOf 9 = 1 := by kernel_rfl
  have k4 : Tryz.prog.cellsOf 2 = 1 := by kernel_rfl
  have k5 : Tryz.prog.cellsOf 26 = 5 := by kernel_rfl
  obtain ⟨xs, n', _, hxd, hcl, hlen, hf⟩ := DataW.trod_struct Tryz.underlying26 h
  rw [k5] at hcl
  rcases cs with _ | ⟨a, _ | ⟨b, _ | ⟨c, _ | ⟨d, _ | ⟨e, _ | ⟨f, r⟩⟩⟩⟩⟩⟩ <;> simp only [List.length_nil, List.length_cons] at hcl <;> try omega
  have hlen : xs.length = 5 := hlen
  rcases xs with _ | ⟨x0, _ | ⟨x1, _ | ⟨x2, _ | ⟨x3, _ | ⟨x4, _ | ⟨x5, r⟩⟩⟩⟩⟩⟩ <;> simp only [List.length_nil, List.length_cons] at hlen <;> try omega
  have h0 : DataW.trod enc Tryz.prog W base spare held n' 23 ((List.drop 0 [a, b, c, d, e]).take (Tryz.prog.cellsOf 23)) = some x0 := hf 0 _ rfl
  have h1 : DataW.trod enc Tryz.prog W base spare held n' 24 ((List.drop 1 [a, b, c, d, e]).take (Tryz.prog.cellsOf 24)) = some x1 := hf 1 _ rfl
  have h2 : DataW.trod enc Tryz.prog W base spare held n' 9 ((List.drop 2 [a, b, c, d, e]).take (Tryz.prog.cellsOf 9)) = some x2 := hf 2 _ rfl
  have h3 : DataW.trod enc Tryz.prog W base spare held n' 9 ((List.drop 3 [a, b, c, d, e]).take (Tryz.prog.cellsOf 9)) = some x3 := hf 3 _ rfl
  have h4 : DataW.trod enc Tryz.prog W base spare held n' 2 ((List.drop 4 [a, b, c, d, e]).take (Tryz.prog.cellsOf 2)) = some x4 := hf 4 _ rfl
  rw [k0] at h0
  rw [k1] at h1
  rw [k2] at h2 h3
  rw [k4] at h4
  obtain ⟨zk, e0, y0, wk⟩ := DataW.trod_int Tryz.underlying23 (show DataW.trod enc Tryz.prog W base spare held n' 23 [a] = some x0 from h0)
  obtain ⟨zn, e1, y1, wn⟩ := DataW.trod_int Tryz.underlying24 (show DataW.trod enc Tryz.prog W base spare held n' 24 [b] = some x1 from h1)
  obtain ⟨s2, e2, y2, _⟩ := DataW.trod_string Tryz.underlying9 (show DataW.trod enc Tryz.prog W base spare held n' 9 [c] = some x2 from h2)
  obtain ⟨s3, e3, y3, _⟩ := DataW.trod_string Tryz.underlying9 (show DataW.trod enc Tryz.prog W base spare held n' 9 [d] = some x3 from h3)
  obtain ⟨zp, e4, y4, wp⟩ := DataW.trod_int Tryz.underlying2 (show DataW.trod enc Tryz.prog W base spare held n' 2 [e] = some x4 from h4)
  simp only [List.cons.injEq, and_true] at e0 e1 e2 e3 e4
  subst e0 e1 e2 e3 e4 y0 y1 y2 y3 y4
  have wk : 0 ≤ zk ∧ zk ≤ 255 := by simpa [Lit.wf, IntKind.min, IntKind.max, IntKind.signed, IntKind.bits] using wk
  have wn : 0 ≤ zn ∧ zn ≤ 255 := by simpa [Lit.wf, IntKind.min, IntKind.max, IntKind.signed, IntKind.bits] using wn
  have wp : -9223372036854775808 ≤ zp ∧ zp ≤ 9223372036854775807 := by simpa [Lit.wf, IntKind.min, IntKind.max, IntKind.signed, IntKind.bits] using wp
  obtain ⟨k, rfl⟩ : ∃ m : Nat, zk = m := ⟨zk.toNat, by omega⟩
  obtain ⟨q, rfl⟩ : ∃ m : Nat, zn = m := ⟨zn.toNat, by omega⟩
  simp only [Prod.mk.injEq] at hxd
  exact ⟨(k, q, s2.data.toList, s3.data.toList, zp), rfl, by show k < 256; omega, by show q < 256; omega, wp, hxd.1⟩
theorem bytes_shown : Tryz.prog.bytesOf 26 = 48 := by kernel_rfl
set_option maxRecDepth 100000 in
theorem open_items {H : Type} {enc : TypeId × Value → H} {W : World} {base : Nat} {v : Value} {d : DataW H} {p : List MemPlace} (hval : Value.okWide Tryz.prog W .any base 22 v) (h : DataW.Trod enc Tryz.prog W 0 (fun _ => true) true 22 v d p)
    (hw : (d.weights Tryz.prog 22).all (· ≤ reachBytes) = true) :
    ∃ (A : Option Addr) (l : List It) (c : Nat), v = .slice A l.length c ∧ (A = none → c = 0) ∧ RdI W A l ∧ l.length ≤ 2999999999999 ∧ ∀ x ∈ l, OkI x := by
  obtain ⟨a1, len, cap, rfl⟩ := okWide_slice Tryz.underlying22 hval
  obtain ⟨fuel, hf⟩ := h
  rcases open_slice Tryz.underlying22 hf with ⟨hcs, _⟩ | ⟨a, len', cap', m, n, D, Pl, hcs, _, hl, hm, hmm, hx, hi⟩
  · simp [Value.cells] at hcs
    obtain ⟨rfl, rfl, rfl⟩ := hcs
    exact ⟨none, [], 0, rfl, fun _ => rfl, (fun i x h => (by cases h)), by simp, (fun x h => (by cases h))⟩
  · simp [Value.cells] at hcs
    obtain ⟨rfl, rfl, rfl⟩ := hcs
    have k5 : Tryz.prog.cellsOf 26 = 5 := by kernel_rfl
    have key : ∀ i, i < len → ∃ x : It, (∀ j u, j < 5 → (itC x)[j]? = some u → W.cell? (a.add (i * 5 + j)) = some u) ∧ x.1 < 256 ∧ x.2.1 < 256 ∧ (-9223372036854775808 ≤ x.2.2.2.2 ∧ x.2.2.2.2 ≤ 9223372036854775807) ∧ D i = .agg [.lit (.int .u8 x.1), .lit (.int .u8 x.2.1), .lit (.string x.2.2.1), .lit (.string x.2.2.2.1), .lit (.int .i64 x.2.2.2.2)] := by
      intro i hil
      obtain ⟨cs', hc, ht⟩ := hi i (by rw [hmm]; split <;> omega)
      rw [k5] at hc
      obtain ⟨x, rfl, h1, h2, h3, h4⟩ := item_at ht
      refine ⟨x, fun j u hj hu => ?_, h1, h2, h3, h4⟩
      obtain ⟨_, _, hat⟩ := World.cells?_some hc
      have := hat j hj
      rw [← Go.Deep.add_add]
      rw [this]
      exact hu
    obtain ⟨f, hf'⟩ := choose_lt key
    have hlen : ((List.range len).map f).length = len := by simp
    have hget : ∀ i, i < len → ((List.range len).map f)[i]? = some (f i) := fun i hi => by rw [List.getElem?_map, List.getElem?_range hi]; rfl
    obtain ⟨ab, ao, spot⟩ := a
    have hsp : 0 < len → spot = none := fun h0 => by
      have := (hf' 0 h0).1 0 _ (by omega) rfl
      simpa [Addr.add] using World.cell?_spot this
    have hxd : d = .slice ((List.range len).map D) ((List.range (m - len)).map fun j => D (len + j)) := congrArg Prod.fst hx
    have r := reachBytes_lt
    have r2 : (2 : Nat) ^ 47 = 140737488355328 := by decide
    refine ⟨some ⟨ab, ao, spot⟩, (List.range len).map f, cap, by rw [hlen], fun h => (by cases h), ?_, ?_, fun x hx => ?_⟩
    · intro j x hjx
      have hj : j < len := by rw [← hlen]; exact (List.getElem?_eq_some_iff.1 hjx).1
      have hspot := hsp (by omega)
      subst hspot
      rw [hget j hj] at hjx
      cases hjx
      have hc := (hf' j hj).1
      simp only [addr_add] at hc
      exact ⟨ab, ao, rfl, by have := hc 0 _ (by omega) rfl; simpa using this, by have := hc 1 _ (by omega) rfl; rwa [← Nat.add_assoc] at this, by have := hc 2 _ (by omega) rfl; rwa [← Nat.add_assoc] at this, by have := hc 3 _ (by omega) rfl; rwa [← Nat.add_assoc] at this, by have := hc 4 _ (by omega) rfl; rwa [← Nat.add_assoc] at this⟩
    · rw [hlen]
      have h2 : (len + (m - len)) * 48 ∈ d.weights Tryz.prog 22 := by
        rw [hxd]
        simp only [DataW.weights, Tryz.underlying22, bytes_shown, List.length_map, List.length_range, List.mem_cons, List.mem_append]
        exact .inl trivial
      have h3 : (len + (m - len)) * 48 ≤ reachBytes := by simpa using List.all_eq_true.1 hw _ h2
      omega
    · obtain ⟨i, hi, rfl⟩ := List.mem_map.1 hx
      rw [List.mem_range] at hi
      obtain ⟨_, q1, q2, q3, h⟩ := hf' i hi
      have hmem : ∀ n, n ∈ (D i).weights Tryz.prog 26 → n ≤ reachBytes := by
        intro n hn
        have h1 := mem_weightsAll hn (elems := (List.range len).map D) (i := i) (by rw [List.getElem?_map, List.getElem?_range hi]; rfl)
        have h2 : n ∈ d.weights Tryz.prog 22 := by
          rw [hxd]
          simp only [DataW.weights, Tryz.underlying22, List.mem_cons, List.mem_append]
          exact .inr (.inl h1)
        simpa using List.all_eq_true.1 hw n h2
      rw [h] at hmem
      simp only [DataW.weights, Tryz.underlying26, DataW.weightsEach, List.map_cons, List.map_nil, List.mem_append, List.mem_cons, List.mem_nil_iff, or_false, false_or, List.append_nil] at hmem
      have q4 := hmem (f i).2.2.1.length (by simp)
      have q5 := hmem (f i).2.2.2.1.length (by simp)
      exact ⟨q1, q2, by omega, by omega, q3.1, q3.2⟩
end Go.Proofs.YtakccaldcolbmaaGreatDoor.Wln
