/- Joined texts: KitBytes, FlatKit, Beh, Emb. -/
import Derived.Test.YtemfmidhekdekaaGreatDoorChecked
import Derived.WalkKit
import Derived.ProofKit
import Derived.OpenShut
import Derived.Handy
import Derived.Lib.Hide
import Derived.Deep.LoopGhost
import Derived.Deep.Light
import Derived.Deep.DeepCutAuto
import Derived.Deep.RegionWith
import Derived.BigQuiet
import Derived.Deep.QuietTactic
import Derived.Test.YtemfmidhekdekaaGreatDoorProg
import Derived.OwnWalk
import Derived.Laws.AppendOwn
import Derived.Laws.IdiomCopy
import Derived.Maps.AppendAt
import Derived.Deep.AppendLies
import Derived.Lib.SmallJoins
import Derived.Below
import Derived.Deep.Quiet
import Derived.Shelf.Strings.BuilderK
import Derived.Lib.AppendStr
import Derived.Lib.OthersKept
import Derived.Laws.Externs
namespace Go.Proofs.YtemfmidhekdekaaGreatDoor.Kb
open Go Go.RowKit Go.ChangeShapes Go.WideShapes Go.ChangeAt

/-- kept from every tactic of the walk -/
structure Kept (p : Prop) : Prop where
  out : p
theorem ret_bool {a b : Bool} (h : a = b) : Ending.returned (.bool a) = .returned (.bool b) := by rw [h]
theorem cell_lt {w : World} {g i : Nat} {v : Value} (h : w.cell? ⟨g, i, none⟩ = some v) : g < w.heap.size := by
  rcases Nat.lt_or_ge g w.heap.size with hl | hg
  · exact hl
  · simp [World.cell?, Array.getElem?_eq_none hg] at h

/-- bytes as cells -/
def bc (l : List UInt8) : List Value := l.map fun b => Value.int .u8 (b.toNat : Int)
theorem bc_append (l m : List UInt8) : bc (l ++ m) = bc l ++ bc m := by simp [bc]
theorem bc_length (l : List UInt8) : (bc l).length = l.length := by simp [bc]
theorem bc_one (c : UInt8) : bc [c] = [Value.int .u8 (c.toNat : Int)] := rfl
theorem bc_cell (l : List UInt8) (j : Nat) (x : UInt8) (h : l[j]? = some x) : (bc l)[j]? = some (.int .u8 (x.toNat : Int)) := by simp [bc, h]
theorem bc_oneCell (l : List UInt8) : ∀ u ∈ bc l, u.oneCell' = true := by
  intro u hu
  simp only [bc, List.mem_map] at hu
  obtain ⟨b, _, rfl⟩ := hu
  rfl

/-- the slice at A reads as these bytes (nothing is said of an empty one) -/
def Rd (w : World) (A : Option Addr) (l : List UInt8) : Prop :=
  l ≠ [] → ∃ b off, A = some ⟨b, off, none⟩ ∧ ∀ j x, l[j]? = some x → w.cell? ⟨b, off + j, none⟩ = some (.int .u8 (x.toNat : Int))
theorem Rd.below {w w' : World} {A : Option Addr} {l : List UInt8} (h : Rd w A l) (hb : Below w.heap.size w w') : Rd w' A l := by
  intro hne
  obtain ⟨b, off, hA, hc⟩ := h hne
  exact ⟨b, off, hA, fun j x hx => by have := hc j x hx; rw [hb.cell (p := ⟨b, off + j, none⟩) (cell_lt this)]; exact this⟩
theorem Rd.at_ {w : World} {A : Option Addr} {l : List UInt8} (h : Rd w A l) {k : Nat} (hk : k < l.length) :
    ∃ b off, A = some ⟨b, off, none⟩ ∧ w.cell? ⟨b, off + k, none⟩ = some (.int .u8 ((l.getD k 0).toNat : Int)) := by
  obtain ⟨b, off, hA, hc⟩ := h (by intro e; subst e; simp at hk)
  refine ⟨b, off, hA, hc k _ ?_⟩
  simp [List.getD, List.getElem?_eq_getElem hk]
theorem add_lit (b off j : Nat) : (⟨b, off, none⟩ : Addr).add j = ⟨b, off + j, none⟩ := by
  unfold Addr.add
  by_cases h : j = 0 <;> simp [h]
/-- what a row of the call's own gives a reader -/
theorem rd_of_own {w : World} {base c n : Nat} {A : Option Addr} {l : List UInt8} (h : w.ownsRow base 5 1 (.slice A n c) n (bc l)) : Rd w A l := by
  intro hne
  have hn : 0 < n := by
    have := h.1
    rw [bc_length] at this
    have := List.length_pos_iff.2 hne
    omega
  rcases h.2 with ⟨h0, hx⟩ | ⟨g, cap, cur, hv, _⟩
  · exfalso
    injection h0 with _ e2 _
    omega
  · injection hv with hA
    subst hA
    refine ⟨g, 0, rfl, fun j x hx => ?_⟩
    have := h.cells (g := g) rfl j _ (bc_cell l j x hx)
    rw [add_lit] at this
    exact this
theorem own_shape {w : World} {base n : Nat} {v : Value} {xs : List Value} (h : w.ownsRow base 5 1 v n xs) : ∃ A c, v = .slice A n c ∧ xs.length = n ∧ n ≤ c ∧ c ≤ maxLen := by
  have hx := h.1
  rcases h.2 with ⟨rfl, hn⟩ | ⟨g, cap, cur, rfl, _, _, h1, h2, _⟩
  · subst hn
    exact ⟨none, 0, rfl, by simpa using hx, Nat.le_refl _, Nat.zero_le _⟩
  · exact ⟨_, cap, rfl, by simpa using hx, h1, h2⟩

/-- the arguments, behind a call that has only made memory -/
theorem trodAll_below {H : Type} {enc : TypeId × Value → H} {P : Program} (hl : laidOutB P = true) {W W' : World} (hb : Below W.heap.size W W') :
    ∀ {ts : List TypeId} {vs : List Value} {ds : List (DataW H)} {ps : List MemPlace}, (ts.all fun t => P.readableRec t && decide (t < P.types.size)) = true →
      DataW.TrodAll enc P W 0 (fun _ => true) true ts vs ds ps → DataW.TrodAll enc P W' 0 (fun b => decide (b < W.heap.size)) true ts vs ds ps
  | [], vs, ds, ps, _, h => by
    obtain ⟨rfl, rfl, rfl⟩ := trodAll_nil h
    exact trodAll_mk0
  | t :: ts, vs, ds, ps, ht, h => by
    have hlt := DataW.TrodAll.lt h
    rw [List.all_cons, Bool.and_eq_true, Bool.and_eq_true] at ht
    obtain ⟨v, vs', d, ds', p, q, rfl, rfl, rfl, h1, h2⟩ := trodAll_cons h
    exact trodAll_cons_mk (Below.trod hl ht.1.1 (of_decide_eq_true ht.1.2) h1 hb fun x hx => hlt x (List.mem_append_left _ hx)) (trodAll_below hl hb ht.2 h2)
set_option maxRecDepth 100000 in
/-- a slice of bytes that came in -/
theorem open_bytes {H : Type} {enc : TypeId × Value → H} {W : World} {base : Nat} {v : Value} {d : DataW H} {p : List MemPlace} (hval : Value.okWide Tryz.prog W .any base 50 v) (h : DataW.Trod enc Tryz.prog W 0 (fun _ => true) true 50 v d p) :
    ∃ (A : Option Addr) (l : List UInt8) (c : Nat), v = .slice A l.length c ∧ l.length ≤ c ∧ c ≤ maxLen ∧ Rd W A l := by
  obtain ⟨a1, len, cap, rfl⟩ := okWide_slice Tryz.underlying50 hval
  obtain ⟨fuel, hf⟩ := h
  have hc : Tryz.prog.cellsOf 5 = 1 := by kernel_rfl
  rcases open_ints Tryz.underlying50 Tryz.underlying5 hc hf with ⟨hcs, hx⟩ | ⟨a, len', cap', zs, hcs, _, hl, hm, hz, hx, hcell, hwz⟩
  · simp [Value.cells] at hcs
    obtain ⟨rfl, rfl, rfl⟩ := hcs
    exact ⟨none, [], 0, rfl, Nat.le_refl _, Nat.zero_le _, fun h => absurd rfl h⟩
  · simp [Value.cells] at hcs
    obtain ⟨rfl, rfl, rfl⟩ := hcs
    simp only [if_true] at hz
    have hlen : ((zs.take len).map fun n => UInt8.ofNat n.toNat).length = len := by simp; omega
    refine ⟨some a, (zs.take len).map fun n => UInt8.ofNat n.toNat, cap, by rw [hlen], by rw [hlen]; exact hl, hm, fun hne => ?_⟩
    have h0 : 0 < len := by
      rcases Nat.eq_zero_or_pos len with h0 | h0
      · subst h0; simp at hne
      · exact h0
    obtain ⟨ab, ao, spot⟩ := a
    have hspot : spot = none := by simpa [Addr.add] using World.cell?_spot (hcell 0 (by omega))
    subst hspot
    refine ⟨ab, ao, rfl, fun j x hx => ?_⟩
    have hj : j < len := by rw [← hlen]; exact (List.getElem?_eq_some_iff.1 hx).1
    have hcj := hcell j (by omega)
    rw [add_lit] at hcj
    rw [hcj]
    have e : zs[j]? = some (zs.getD j 0) := by simp [List.getD, List.getElem?_eq_getElem (show j < zs.length by omega)]
    generalize zs.getD j 0 = z at e ⊢
    rw [List.getElem?_map, List.getElem?_take, if_pos hj, e] at hx
    simp only [Option.map_some, Option.some.injEq] at hx
    subst hx
    have hw := hwz _ (List.mem_of_getElem? e)
    simp [Lit.wf, IntKind.min, IntKind.max, IntKind.signed, IntKind.bits] at hw
    congr 2
    simp only [UInt8.toNat_ofNat']
    omega
end Go.Proofs.YtemfmidhekdekaaGreatDoor.Kb
namespace Go.Proofs.YtemfmidhekdekaaGreatDoor.Flt
open Go Go.RowKit

section
variable {P : Program} (w : World)
/-- append to a slice of the call's own: a slice in the same block that is no longer than it stays as it was, and so does each that lies elsewhere -/
theorem run_append_share (base : Nat) (t ty e : TypeId) (i : TypeInfo) (z : Value) (size bytes : Nat) (ht : P.underlying t = some (.slice e)) (hi : P.info? e = some i) (hz : i.zero = some z)
    (hsize : i.size = size) (hby : i.bytes = bytes) (hzs : z.cells.size = size) (hsz : 0 < size)
    (v : Value) (n : Nat) (xs : List Value) (hown : w.ownsRow base e size v n xs)
    (a : Addr) (m c : Nat) (news : List Value) (hl : news.length = m * size) (hnews : ∀ j u, news[j]? = some u → w.cell? (a.add j) = some u) (h1 : ∀ u ∈ news, u.oneCell' = true)
    (h63 : n + m ≤ maxLen) (hbytes : (n + m) * bytes ≤ 140737488355328) (hbase : base ≤ w.heap.size) :
    ∃ v' w', (Builtin.append_ #[t, t] ty #[v, .slice (some a) m c]).run P w = .ok v' w' ∧ w'.ownsRow base e size v' (n + m) (xs ++ news) ∧ w.grownBy w' v.ownBlock ∧
      (v'.ownBlock = v.ownBlock ∨ v'.ownBlock = some w.heap.size) ∧
      ∀ (b0 : Nat) (u : Value) (k : Nat) (ys : List Value), w.ownsRow b0 e size u k ys → k ≤ n → w'.ownsRow b0 e size u k ys := by
  obtain ⟨v', w', hr, h2, h3, _, h5⟩ := run_append_own_at (P := P) w base t ty e i z size bytes ht hi hz hsize hby hzs hsz v n xs hown a m c news hl hnews h1 h63 hbytes hbase
  refine ⟨v', w', hr, h2, h3, h5, fun b0 u k ys hu hk => ?_⟩
  by_cases hne : u.ownBlock = none ∨ u.ownBlock ≠ v.ownBlock
  · exact hu.kept h3 hne
  · have hb : u.ownBlock ≠ none ∧ u.ownBlock = v.ownBlock := by
      constructor
      · exact fun e => hne (.inl e)
      · exact Classical.byContradiction fun e => hne (.inr e)
    rcases hown.2 with ⟨rfl, _⟩ | ⟨g, cap, cur, rfl, hbg, hg, hnc, hcm, hcs, htake⟩
    · exact absurd hb.2 (by simpa [Value.ownBlock] using hb.1)
    rcases hu.2 with ⟨rfl, _⟩ | ⟨g2, cap2, cur2, rfl, hbg2, hg2, hnc2, hcm2, hcs2, htake2⟩
    · exact absurd rfl hb.1
    have hgg : g2 = g := by simpa [Value.ownBlock] using hb.2
    subst hgg
    have hcur : cur2 = cur := by
      rw [hg] at hg2
      injection hg2 with e
      injection e with e
      exact e.symm
    subst hcur
    by_cases hroom : n + m ≤ cap
    · have hfit : n * i.size + news.length ≤ cur2.size := by rw [hl, hsize, hcs, ← Nat.add_mul]; exact Nat.mul_le_mul_right _ hroom
      have hr2 := run_append_room (P := P) w t ty e i ht hi g2 n cap cur2 hg a m c news (by rw [hsize]; exact hl) hnews h1 hroom hfit
      rw [hr] at hr2
      injection hr2 with _ hw
      subst hw
      refine ⟨hu.1, .inr ⟨g2, cap2, _, rfl, hbg2, setRow_heap w g2 cur2 _ e _ hg, hnc2, hcm2, ?_, ?_⟩⟩
      · simp only [List.size_toArray, List.length_append, List.length_take, List.length_drop, Array.length_toList]
        omega
      · rw [← htake2, hsize]
        have hkn : k * size ≤ n * size := Nat.mul_le_mul_right _ hk
        have hfit2 : n * size ≤ cur2.size := by rw [hcs]; exact Nat.mul_le_mul_right _ hnc
        rw [List.append_assoc, List.take_append_of_le_length (by rw [List.length_take, Array.length_toList]; omega), List.take_take, Nat.min_eq_left hkn]
    · have hx := hown.cells (g := g2) rfl
      have hr2 := run_append_grow (P := P) w t ty e i z ht hi hz ⟨g2, 0, none⟩ n cap xs (by rw [hsize]; exact hown.1) hx a m c news (by rw [hsize]; exact hl) hnews (by omega) (by unfold maxLen at h63; omega) (growslice_fits (by omega) (by rw [hby]; exact hbytes))
      rw [hr] at hr2
      injection hr2 with _ hw
      subst hw
      exact hu.kept (row := none) ⟨rfl, rfl, rfl, by simp, fun j hj _ => by first | exact heap_alloc_old w.drew _ j hj | exact heap_alloc_old w.drew _ hj⟩ (.inr (by simp [Value.ownBlock]))

theorem wpList_append_share {ops : Array Oper} {rest : List Oper} {o : Oper} {a : Act} {Q : Exit → Act → World → Prop} (hgd : o.guard = none) (s x : Operand) (t : TypeId)
    (ho : o.op = .call { callee := .builtin .append, args := #[s, x], argTypes := #[t, t] })
    (base : Nat) (e : TypeId) (i : TypeInfo) (z : Value) (size bytes : Nat) (ht : P.underlying t = some (.slice e)) (hi : P.info? e = some i) (hz : i.zero = some z)
    (hsize : i.size = size) (hby : i.bytes = bytes) (hzs : z.cells.size = size) (hsz : 0 < size)
    (v : Value) (n : Nat) (xs : List Value) (hs : a.eval s = v) (hown : w.ownsRow base e size v n xs)
    (ad : Addr) (m c : Nat) (news : List Value) (hx : a.eval x = .slice (some ad) m c) (hl : news.length = m * size) (hnews : ∀ j u, news[j]? = some u → w.cell? (ad.add j) = some u) (h1 : ∀ u ∈ news, u.oneCell' = true)
    (h63 : n + m ≤ maxLen) (hbytes : (n + m) * bytes ≤ 140737488355328) (hbase : base ≤ w.heap.size)
    (h : ∀ v' w', w'.ownsRow base e size v' (n + m) (xs ++ news) → w.grownBy w' v.ownBlock → (v'.ownBlock = v.ownBlock ∨ v'.ownBlock = some w.heap.size) →
      (∀ (b0 : Nat) (u : Value) (k : Nat) (ys : List Value), w.ownsRow b0 e size u k ys → k ≤ n → w'.ownsRow b0 e size u k ys) → wpList P ops Q rest (a.put o.dst v') w') : wpList P ops Q (o :: rest) a w := by
  refine wpList_plain hgd fun K hK => ?_
  obtain ⟨v', w', hr, h2, h3, h4, h5⟩ := run_append_share (P := P) w base t o.type e i z size bytes ht hi hz hsize hby hzs hsz v n xs hown ad m c news hl hnews h1 h63 hbytes hbase
  unfold Oper.wp execOp
  simp only [ho, resolve, invoke, builtin, Sem.run_bind, Sem.run_pure, Result.andThen_ok, List.map_toArray, List.map_cons, List.map_nil, hs, hx, hr]
  exact hK _ _ (h v' w' h2 h3 h4 h5)
end

/-- two values that own no block together -/
def Far (u v : Value) : Prop := u.ownBlock = none ∨ u.ownBlock ≠ v.ownBlock
theorem Far.symm {u v : Value} (h : Far u v) : Far v u := by
  unfold Far at h ⊢
  by_cases hv : v.ownBlock = none
  · exact .inl hv
  · refine .inr fun e => ?_
    rcases h with h | h
    · exact hv (e.trans h)
    · exact h e.symm
theorem Far.of_lt {u v : Value} {N : Nat} (h : ∀ b, u.ownBlock = some b → b < N) (hv : v.ownBlock = some N) : Far u v := by
  unfold Far
  cases hu : u.ownBlock with
  | none => exact .inl rfl
  | some b =>
    refine .inr ?_
    rw [hv]
    have := h b hu
    simp only [ne_eq, Option.some.injEq]
    omega
theorem Far.of_type {w : World} {base base' : Nat} {e e' : TypeId} {s s' : Nat} {u v : Value} {n m : Nat} {xs ys : List Value} (hu : w.ownsRow base e s u n xs) (hv : w.ownsRow base' e' s' v m ys) (hne : e ≠ e') : Far u v := by
  unfold Far
  rcases hu.2 with ⟨rfl, _⟩ | ⟨g, cap, cur, rfl, _, hg, _⟩
  · exact .inl rfl
  · rcases hv.2 with ⟨rfl, _⟩ | ⟨g2, cap2, cur2, rfl, _, hg2, _⟩
    · exact .inr (by simp [Value.ownBlock])
    · refine .inr ?_
      simp only [Value.ownBlock, ne_eq, Option.some.injEq]
      intro e2
      subst e2
      rw [hg] at hg2
      injection hg2 with h
      injection h with _ h _
      exact hne h
theorem own_lt {w : World} {base : Nat} {e : TypeId} {s : Nat} {u : Value} {n : Nat} {xs : List Value} (h : w.ownsRow base e s u n xs) : ∀ b, u.ownBlock = some b → b < w.heap.size := fun b hb => (h.lt b hb).2
theorem own_drew {w : World} {base n k : Nat} {e : TypeId} {v : Value} {xs : List Value} (h : w.ownsRow base e k v n xs) : w.drew.ownsRow base e k v n xs := h
/-- a cell of another block is stored -/
theorem own_other {w : World} {base n g i k : Nat} {e : TypeId} {v u : Value} {xs : List Value} (h : w.ownsRow base e k v n xs) (hg : v.ownBlock ≠ some g) : (w.setCell ⟨g, i, none⟩ u).ownsRow base e k v n xs :=
  h.kept (row := some g) ⟨rfl, rfl, rfl, by simp, fun j _ hne => Below.heap_setCell _ _ _ _ (fun e => hne (congrArg some e))⟩ (.inr hg)
theorem own_others {base n g k : Nat} {e : TypeId} {v : Value} {xs : List Value} (hg : v.ownBlock ≠ some g) : ∀ (news : List Value) (w : World) (i : Nat), w.ownsRow base e k v n xs → (w.setCells g i news).ownsRow base e k v n xs
  | [], _, _, h => h
  | _ :: r, _, i, h => own_others hg r _ (i + 1) (own_other h hg)
/-- a cell of its own is stored -/
theorem own_cell {w : World} {base size n g cap : Nat} {e : TypeId} {xs : List Value} (h : w.ownsRow base e size (.slice (some ⟨g, 0, none⟩) n cap) n xs) (i : Nat) (u : Value) :
    (w.setCell ⟨g, i, none⟩ u).ownsRow base e size (.slice (some ⟨g, 0, none⟩) n cap) n (xs.set i u) := by
  refine ⟨by rw [List.length_set]; exact h.1, ?_⟩
  rcases h.2 with ⟨h0, _⟩ | ⟨g', cap', cur, hv, hb, hh, h1, h2, h3, h4⟩
  · cases h0
  · injection hv with hA _ hc
    injection hA with hA
    injection hA with hA
    subst hA hc
    refine .inr ⟨g, cap, cur.setIfInBounds i u, rfl, hb, Joins.block_setCell hh u, h1, h2, by rw [Array.size_setIfInBounds]; exact h3, ?_⟩
    rw [Array.toList_setIfInBounds, List.take_set, h4]
theorem own_seg {base size n g cap : Nat} {e : TypeId} : ∀ (news old pre post : List Value) (w : World), old.length = news.length → w.ownsRow base e size (.slice (some ⟨g, 0, none⟩) n cap) n (pre ++ (old ++ post)) →
    (w.setCells g pre.length news).ownsRow base e size (.slice (some ⟨g, 0, none⟩) n cap) n (pre ++ (news ++ post))
  | [], [], _, _, _, _, h => h
  | [], _ :: _, _, _, _, hl, _ => by simp at hl
  | _ :: _, [], _, _, _, hl, _ => by simp at hl
  | u :: news, o :: old, pre, post, w, hl, h => by
    have h1 := own_cell h pre.length u
    rw [List.set_append_right _ _ (Nat.le_refl _), Nat.sub_self] at h1
    have h2 := own_seg news old (pre ++ [u]) post (w.setCell ⟨g, pre.length, none⟩ u) (by simpa using hl) (by simpa using h1)
    simpa [World.setCells] using h2
theorem own_block {w : World} {base size n : Nat} {e : TypeId} {v : Value} {xs : List Value} (h : w.ownsRow base e size v n xs) (hn : 0 < n) : ∃ g c, v = .slice (some ⟨g, 0, none⟩) n c ∧ base ≤ g ∧ g < w.heap.size ∧ n ≤ c := by
  rcases h.2 with ⟨_, h0⟩ | ⟨g, cap, cur, rfl, hb, hg, hc, _⟩
  · omega
  · exact ⟨g, cap, rfl, hb, (Array.getElem?_eq_some_iff.1 hg).1, hc⟩
theorem own_unfrozen {w : World} {base size n g c : Nat} {e : TypeId} {xs : List Value} (h : w.ownsRow base e size (.slice (some ⟨g, 0, none⟩) n c) n xs) (i : Nat) : w.frozen? ⟨g, i, none⟩ = false := by
  rcases h.2 with ⟨h0, _⟩ | ⟨g', cap', cur, hv, _, hh, _⟩
  · cases h0
  · injection hv with hA _ _
    injection hA with hA
    injection hA with hA
    subst hA
    exact Joins.unfrozen_of_block hh _
theorem own_at {w : World} {base size n g c : Nat} {e : TypeId} {xs : List Value} (h : w.ownsRow base e size (.slice (some ⟨g, 0, none⟩) n c) n xs) (j : Nat) (u : Value) (hu : xs[j]? = some u) : w.cell? ⟨g, j, none⟩ = some u := by
  have := h.cells (g := g) rfl j u hu
  have ha : (⟨g, 0, none⟩ : Addr).add j = ⟨g, j, none⟩ := by unfold Addr.add; split <;> simp_all
  rwa [ha] at this

/-! ### marks -/
def marks (mk : Nat → Nat → List Value) (k n : Nat) : List Value := (List.range n).flatMap (mk k)
theorem marks_zero (mk : Nat → Nat → List Value) (k : Nat) : marks mk k 0 = [] := rfl
theorem marks_succ (mk : Nat → Nat → List Value) (k n : Nat) : marks mk k (n + 1) = marks mk k n ++ mk k n := by simp [marks, List.range_succ]
theorem marks_length {mk : Nat → Nat → List Value} {sz : Nat} (h : ∀ k i, (mk k i).length = sz) (k : Nat) : ∀ n, (marks mk k n).length = n * sz
  | 0 => by simp [marks]
  | n + 1 => by rw [marks_succ, List.length_append, marks_length h k n, h, Nat.add_mul, Nat.one_mul]
theorem marks_more (mk : Nat → Nat → List Value) (k i : Nat) : ∀ d, ∃ r, marks mk k (i + d) = marks mk k i ++ r
  | 0 => ⟨[], by simp⟩
  | d + 1 => by
    obtain ⟨r, hr⟩ := marks_more mk k i d
    exact ⟨r ++ mk k (i + d), by rw [← Nat.add_assoc, marks_succ, hr, List.append_assoc]⟩
theorem marks_get {mk : Nat → Nat → List Value} {sz : Nat} (h : ∀ k i, (mk k i).length = sz) {k i n : Nat} (hi : i < n) {j : Nat} {u : Value} (hu : (mk k i)[j]? = some u) (ys : List Value) : (marks mk k n ++ ys)[i * sz + j]? = some u := by
  obtain ⟨r, hr⟩ := marks_more mk k (i + 1) (n - (i + 1))
  rw [show i + 1 + (n - (i + 1)) = n by omega, marks_succ] at hr
  have hj : j < (mk k i).length := (List.getElem?_eq_some_iff.1 hu).1
  rw [hr, List.append_assoc, List.append_assoc, List.getElem?_append_right (by rw [marks_length h]; omega), marks_length h, Nat.add_sub_cancel_left, List.getElem?_append_left hj, hu]

/-! ### the states of the flat walks -/
/-- what stays: the element's type and the lists', an element's cells, its marks; the blocks from B0 on are the call's own; the list of lists, its values, their lengths; the world at the call -/
structure Ctx where
  E : TypeId
  S : TypeId
  sz : Nat
  mq : Nat → Nat → List Value
  B0 : Nat
  K : Nat
  lsv : Value
  vs : List Value
  ns : Nat → Nat
  w : World
structure Ctx.Ok (c : Ctx) : Prop where
  len : ∀ k i, (c.mq k i).length = c.sz
  pos : 0 < c.sz
  ne : c.E ≠ c.S
  low : c.B0 ≤ c.w.heap.size
  far : ∀ (j k : Nat) (u v : Value), j ≠ k → c.vs[j]? = some u → c.vs[k]? = some v → Far u v
/-- the lists' own rows -/
def Fam (c : Ctx) (xs : Nat → List Value) (wx : World) : Prop := ∀ (j : Nat) (v : Value), c.vs[j]? = some v → wx.ownsRow c.B0 c.E c.sz v (c.ns j) (xs j)
/-- a block that may turn: a list's own row, or one that has been made since -/
def May (c : Ctx) (b : Nat) : Prop := c.w.heap.size ≤ b ∨ ∃ (j : Nat) (v : Value), c.vs[j]? = some v ∧ v.ownBlock = some b
/-- nothing else has turned -/
structure Kpt (c : Ctx) (wx : World) : Prop where
  toB : Below c.B0 c.w wx
  kp : ∀ k, k < c.w.heap.size → ¬ May c k → wx.heap[k]? = c.w.heap[k]?
theorem Kpt.size {c : Ctx} {wx : World} (h : Kpt c wx) : c.w.heap.size ≤ wx.heap.size := h.toB.size
theorem Kpt.refl (c : Ctx) : Kpt c c.w := ⟨Below.refl _ _, fun _ _ _ => rfl⟩
theorem Kpt.below {c : Ctx} (hc : c.Ok) {wx w1 : World} (h : Kpt c wx) (hb : Below wx.heap.size wx w1) : Kpt c w1 :=
  ⟨h.toB.trans (hb.mono (Nat.le_trans hc.low h.toB.size)), fun k hk hm => (hb.block k (Nat.lt_of_lt_of_le hk h.toB.size)).trans (h.kp k hk hm)⟩
theorem Kpt.setCell {c : Ctx} {wx : World} (h : Kpt c wx) {g i : Nat} (hg : c.B0 ≤ g) (hm : May c g) (u : Value) : Kpt c (wx.setCell ⟨g, i, none⟩ u) :=
  ⟨h.toB.setCell hg u, fun k hk hn => (Below.heap_setCell _ _ _ _ (fun e => hn (by subst e; exact hm))).trans (h.kp k hk hn)⟩
theorem Kpt.grown {c : Ctx} (hc : c.Ok) {wx w1 : World} (h : Kpt c wx) {row : Option Nat} (hg : wx.grownBy w1 row) (hb : ∀ b, row = some b → c.B0 ≤ b) (hm : ∀ b, row = some b → May c b) : Kpt c w1 :=
  ⟨Below.grown h.toB hg (Nat.le_trans hc.low h.toB.size) hb, fun k hk hn => (hg.block k (Nat.lt_of_lt_of_le hk h.toB.size) (fun e => hn (hm k e.symm))).trans (h.kp k hk hn)⟩
def Bas (c : Ctx) (wx : World) : Prop := Kpt c wx ∧ wx.ownsRow c.B0 c.S 1 c.lsv c.K c.vs
theorem own_below {w1 w2 : World} {base n k : Nat} {e : TypeId} {v : Value} {xs : List Value} (hown : w1.ownsRow base e k v n xs) (h' : Below w1.heap.size w1 w2) : w2.ownsRow base e k v n xs :=
  hown.kept (row := none) ⟨h'.os, h'.tape, h'.output, h'.size, fun j hj _ => h'.block j hj⟩ (by cases hv : v.ownBlock <;> simp)
theorem Bas.below {c : Ctx} (hc : c.Ok) {wx w1 : World} (h : Bas c wx) (hb : Below wx.heap.size wx w1) : Bas c w1 := ⟨h.1.below hc hb, own_below h.2 hb⟩
theorem Fam.below {c : Ctx} {xs : Nat → List Value} {wx w1 : World} (h : Fam c xs wx) (hb : Below wx.heap.size wx w1) : Fam c xs w1 := fun j v hv => own_below (h j v hv) hb
theorem Bas.lt {c : Ctx} {wx : World} (h : Bas c wx) {j : Nat} {v : Value} (hv : c.vs[j]? = some v) : j < c.K := by
  have h1 := h.2.1
  have h2 := (List.getElem?_eq_some_iff.1 hv).1
  omega
theorem Bas.get {c : Ctx} {wx : World} (h : Bas c wx) {j : Nat} (hj : j < c.K) : ∃ v, c.vs[j]? = some v := by
  have h1 := h.2.1
  exact ⟨_, List.getElem?_eq_getElem (by omega)⟩
theorem own_slice {w : World} {base size n : Nat} {e : TypeId} {v : Value} {xs : List Value} (h : w.ownsRow base e size v n xs) : ∃ A c, v = .slice A n c ∧ n ≤ c := by
  rcases h.2 with ⟨rfl, rfl⟩ | ⟨g, cap, cur, rfl, hb, hg, hc, _⟩
  · exact ⟨none, 0, rfl, Nat.le_refl _⟩
  · exact ⟨_, cap, rfl, hc⟩
/-- a cell of a block from B0 on is stored -/
theorem Bas.cells {c : Ctx} {wx : World} (h : Bas c wx) {g : Nat} (hg : c.B0 ≤ g) (hm : May c g) (hn : c.lsv.ownBlock ≠ some g) (i : Nat) (news : List Value) : Bas c (wx.setCells g i news) := by
  refine ⟨?_, own_others hn news wx i h.2⟩
  have : ∀ (news : List Value) (wx : World) (i : Nat), Kpt c wx → Kpt c (wx.setCells g i news) := by
    intro news
    induction news with
    | nil => exact fun _ _ h => h
    | cons u r ih => exact fun wx i h => ih _ (i + 1) (h.setCell hg hm _)
  exact this news wx i h.1
theorem Bas.ls {c : Ctx} {wx : World} (h : Bas c wx) {B C : Nat} (hl : c.lsv = .slice (some ⟨B, 0, none⟩) c.K C) {j : Nat} {v : Value} (hv : c.vs[j]? = some v) : wx.cell? ⟨B, j, none⟩ = some v := by
  have h2 := h.2
  rw [hl] at h2
  exact own_at h2 j v hv
/-- loop 1: the lists ahead of k are marked, of list k the elements ahead of i -/
def F1 (c : Ctx) (k i : Nat) (wx : World) : Prop := Bas c wx ∧ ∃ xs, Fam c xs wx ∧ (∀ j, j < k → xs j = marks c.mq j (c.ns j)) ∧ ∃ rest, xs k = marks c.mq k i ++ rest
theorem F1.below {c : Ctx} (hc : c.Ok) {k i : Nat} {wx w1 : World} (h : F1 c k i wx) (hb : Below wx.heap.size wx w1) : F1 c k i w1 := by
  obtain ⟨h0, xs, h1, h2, h3⟩ := h
  exact ⟨h0.below hc hb, xs, h1.below hb, h2, h3⟩
theorem F1.start {c : Ctx} {wx : World} (h : Bas c wx) {xs : Nat → List Value} (hx : Fam c xs wx) : F1 c 0 0 wx := ⟨h, xs, hx, fun j hj => by omega, xs 0, rfl⟩
/-- the row where the next mark goes -/
theorem F1.row {c : Ctx} (hc : c.Ok) {k i : Nat} {wx : World} (h : F1 c k i wx) {v : Value} (hv : c.vs[k]? = some v) (hi : i < c.ns k) :
    ∃ g cc, v = .slice (some ⟨g, 0, none⟩) (c.ns k) cc ∧ c.B0 ≤ g ∧ g < wx.heap.size ∧ (∀ j, j < c.sz → ∃ u, wx.cell? ⟨g, i * c.sz + j, none⟩ = some u) ∧ (∀ j, wx.frozen? ⟨g, j, none⟩ = false) ∧ c.lsv.ownBlock ≠ some g := by
  obtain ⟨h0, xs, h1, h2, rest, h3⟩ := h
  have ho := h1 k v hv
  obtain ⟨g, cc, rfl, hb, hg, _⟩ := own_block ho (by omega)
  refine ⟨g, cc, rfl, hb, hg, fun j hj => ?_, fun j => own_unfrozen ho j, ?_⟩
  rotate_left
  · rcases Far.of_type h0.2 ho hc.ne.symm with e | e
    · rw [e]; exact fun e => by cases e
    · exact e
  have hl := ho.1
  have h4 : (i + 1) * c.sz ≤ c.ns k * c.sz := Nat.mul_le_mul_right _ hi
  rw [Nat.add_mul, Nat.one_mul] at h4
  exact ⟨_, own_at ho _ _ (List.getElem?_eq_getElem (by omega))⟩
theorem F1.store {c : Ctx} (hc : c.Ok) {k i : Nat} {wx : World} (h : F1 c k i wx) {g cc : Nat} (hv : c.vs[k]? = some (.slice (some ⟨g, 0, none⟩) (c.ns k) cc)) (hi : i < c.ns k) : F1 c k (i + 1) (wx.setCells g (i * c.sz) (c.mq k i)) := by
  obtain ⟨h0, xs, h1, h2, rest, h3⟩ := h
  have ho := h1 k _ hv
  have hg : c.B0 ≤ g := (ho.lt g rfl).1
  have hfar := Far.of_type ho h0.2 hc.ne
  have hn : c.lsv.ownBlock ≠ some g := by
    rcases hfar with e | e
    · cases e
    · exact fun e' => e e'.symm
  have h4 : (i + 1) * c.sz ≤ c.ns k * c.sz := Nat.mul_le_mul_right _ hi
  rw [Nat.add_mul, Nat.one_mul] at h4
  have hl := ho.1
  rw [h3, List.length_append, marks_length hc.len] at hl
  have hsp : rest = rest.take c.sz ++ rest.drop c.sz := (List.take_append_drop _ _).symm
  refine ⟨h0.cells hg (.inr ⟨k, _, hv, rfl⟩) hn _ _, fun j => if j = k then marks c.mq k (i + 1) ++ rest.drop c.sz else xs j, fun j v hj => ?_, fun j hj => ?_, rest.drop c.sz, if_pos rfl⟩
  · by_cases hjk : j = k
    · subst hjk
      rw [hv] at hj
      injection hj with hj
      subst hj
      dsimp only
      rw [if_pos rfl, marks_succ, List.append_assoc]
      rw [h3, hsp] at ho
      have := own_seg (c.mq j i) (rest.take c.sz) (marks c.mq j i) (rest.drop c.sz) wx (by rw [hc.len, List.length_take]; omega) ho
      rw [marks_length hc.len] at this
      exact this
    · dsimp only
      rw [if_neg hjk]
      refine own_others ?_ _ _ _ (h1 j v hj)
      rcases hc.far j k v _ hjk hj hv with e | e
      · rw [e]; exact fun e => by cases e
      · exact e
  · dsimp only
    rw [if_neg (by omega)]
    exact h2 j hj
theorem F1.next {c : Ctx} (hc : c.Ok) {k : Nat} {wx : World} (h : F1 c k (c.ns k) wx) {v : Value} (hv : c.vs[k]? = some v) : F1 c (k + 1) 0 wx := by
  obtain ⟨h0, xs, h1, h2, rest, h3⟩ := h
  have hl := (h1 k v hv).1
  rw [h3, List.length_append, marks_length hc.len] at hl
  have hr : rest = [] := List.eq_nil_of_length_eq_zero (by omega)
  rw [hr, List.append_nil] at h3
  refine ⟨h0, xs, h1, fun j hj => ?_, xs (k + 1), rfl⟩
  rcases Nat.lt_succ_iff_lt_or_eq.1 hj with hj | rfl
  · exact h2 j hj
  · exact h3
def Mar (c : Ctx) (wx : World) : Prop := Bas c wx ∧ Fam c (fun j => marks c.mq j (c.ns j)) wx
theorem F1.done {c : Ctx} {wx : World} (h : F1 c c.K 0 wx) : Mar c wx := by
  obtain ⟨h0, xs, h1, h2, _⟩ := h
  refine ⟨h0, fun j v hv => ?_⟩
  have := h1 j v hv
  rw [h2 j (h0.lt hv)] at this
  exact this
theorem Mar.below {c : Ctx} (hc : c.Ok) {wx w1 : World} (h : Mar c wx) (hb : Below wx.heap.size wx w1) : Mar c w1 := ⟨h.1.below hc hb, h.2.below hb⟩
/-- the second lists' list: a value for each, what each owns; it lies apart from the lists of other numbers -/
structure Gs (c : Ctx) (G : Nat) (us : List Value) (k : Nat) (m : Nat) (ys : Nat → List Value) (wx : World) : Prop where
  own : wx.ownsRow c.B0 c.S 1 (.slice (some ⟨G, 0, none⟩) c.K c.K) c.K us
  ne : c.lsv.ownBlock ≠ some G
  fresh : c.w.heap.size ≤ G
  row : ∀ (j : Nat) (u : Value), j < k → us[j]? = some u → wx.ownsRow c.B0 c.E c.sz u (c.ns j + m) (ys j)
  far : ∀ (j : Nat) (u : Value), j < k → us[j]? = some u → ∀ (i : Nat) (v : Value), i ≠ j → c.vs[i]? = some v → Far v u
theorem Gs.below {c : Ctx} {G : Nat} {us : List Value} {k m : Nat} {ys : Nat → List Value} {wx w1 : World} (h : Gs c G us k m ys wx) (hb : Below wx.heap.size wx w1) : Gs c G us k m ys w1 :=
  ⟨own_below h.own hb, h.ne, h.fresh, fun j u hj hu => own_below (h.row j u hj hu) hb, h.far⟩
theorem Gs.reset {c : Ctx} {G : Nat} {us : List Value} {k m m' : Nat} {ys ys' : Nat → List Value} {wx : World} (h : Gs c G us k m ys wx) : Gs c G us 0 m' ys' wx :=
  ⟨h.own, h.ne, h.fresh, fun j u hj => by omega, fun j u hj => by omega⟩
/-- a list that is gathered now -/
structure Now (c : Ctx) (us : List Value) (k : Nat) (u : Value) : Prop where
  us : ∀ (j : Nat) (u' : Value), j < k → us[j]? = some u' → Far u' u
  vs : ∀ (j : Nat) (v : Value), j ≠ k → c.vs[j]? = some v → Far v u
  may : ∀ b, u.ownBlock = some b → May c b
theorem Now.first {c : Ctx} (hc : c.Ok) {G k m : Nat} {us : List Value} {ys : Nat → List Value} {wx : World} (h : Gs c G us k m ys wx) {v : Value} (hv : c.vs[k]? = some v) : Now c us k v :=
  ⟨fun j u' hj hu => (h.far j u' hj hu k v (by omega) hv).symm, fun j v' hj hv' => hc.far j k v' v hj hv' hv, fun b hb => .inr ⟨k, v, hv, hb⟩⟩
/-- behind an append to the list that is gathered -/
theorem Now.append {c : Ctx} {G k m : Nat} {us : List Value} {ys : Nat → List Value} {xs : Nat → List Value} {wx : World} (hB : Bas c wx) (hf : Fam c xs wx) (h : Gs c G us k m ys wx) {u u' : Value} (hn : Now c us k u) (hat : u'.ownBlock = u.ownBlock ∨ u'.ownBlock = some wx.heap.size) : Now c us k u' := by
  refine ⟨fun j z hj hz => ?_, fun j z hj hz => ?_, fun b hb => ?_⟩
  rotate_left 2
  · rcases hat with e | e
    · exact hn.may b (by rw [← e]; exact hb)
    · rw [hb] at e
      injection e with e
      exact .inl (by rw [e]; exact hB.1.size)
  · rcases hat with e | e
    · rcases hn.us j z hj hz with e2 | e2
      · exact .inl e2
      · exact .inr (by rw [e]; exact e2)
    · exact Far.of_lt (own_lt (h.row j z hj hz)) e
  · rcases hat with e | e
    · rcases hn.vs j z hj hz with e2 | e2
      · exact .inl e2
      · exact .inr (by rw [e]; exact e2)
    · exact Far.of_lt (own_lt (hf j z hz)) e
theorem kept_far {w w' : World} {base n k : Nat} {e : TypeId} {v u : Value} {xs : List Value} (h : w.ownsRow base e k v n xs) (hg : w.grownBy w' u.ownBlock) (hf : Far v u) : w'.ownsRow base e k v n xs := h.kept hg hf
/-- an append to u: what lies apart from it stays; so does list k itself -/
theorem app_bas {c : Ctx} (hc : c.Ok) {wx w1 : World} (h : Bas c wx) {u : Value} {n : Nat} {zs : List Value} (hu : wx.ownsRow c.B0 c.E c.sz u n zs) (hg : wx.grownBy w1 u.ownBlock) (hm : ∀ b, u.ownBlock = some b → May c b) : Bas c w1 :=
  ⟨h.1.grown hc hg (fun b hb => (hu.lt b hb).1) hm, kept_far h.2 hg (Far.of_type h.2 hu hc.ne.symm)⟩
theorem app_fam {c : Ctx} {xs : Nat → List Value} {wx w1 : World} (hf : Fam c xs wx) {us : List Value} {k n : Nat} {u : Value} (hn : Now c us k u) (hg : wx.grownBy w1 u.ownBlock)
    (hs : ∀ (b0 : Nat) (z : Value) (m : Nat) (zs : List Value), wx.ownsRow b0 c.E c.sz z m zs → m ≤ n → w1.ownsRow b0 c.E c.sz z m zs) (hk : c.ns k ≤ n) : Fam c xs w1 := fun j v hv => by
  by_cases hj : j = k
  · subst hj
    exact hs _ _ _ _ (hf j v hv) hk
  · exact kept_far (hf j v hv) hg (hn.vs j v hj hv)
theorem app_gs {c : Ctx} (hc : c.Ok) {G k m n : Nat} {us : List Value} {ys : Nat → List Value} {wx w1 : World} (h : Gs c G us k m ys wx) {u : Value} {zs : List Value} (hu : wx.ownsRow c.B0 c.E c.sz u n zs) (hn : Now c us k u) (hg : wx.grownBy w1 u.ownBlock) : Gs c G us k m ys w1 :=
  ⟨kept_far h.own hg (Far.of_type h.own hu hc.ne.symm), h.ne, h.fresh, fun j z hj hz => kept_far (h.row j z hj hz) hg (hn.us j z hj hz), h.far⟩
/-- the gathered list is laid into the second lists' list -/
theorem gs_store {c : Ctx} (hc : c.Ok) {G k m : Nat} {us : List Value} {ys : Nat → List Value} {wx : World} {xs : Nat → List Value} (hB : Bas c wx) (hF : Fam c xs wx) (hG : c.B0 ≤ G) (h : Gs c G us k m ys wx) {u : Value} (hu : wx.ownsRow c.B0 c.E c.sz u (c.ns k + m) (ys k)) (hn : Now c us k u) :
    Bas c (wx.setCell ⟨G, k, none⟩ u) ∧ Fam c xs (wx.setCell ⟨G, k, none⟩ u) ∧ Gs c G (us.set k u) (k + 1) m ys (wx.setCell ⟨G, k, none⟩ u) := by
  have far : ∀ {z : Value} {a : Nat} {zs : List Value}, wx.ownsRow c.B0 c.E c.sz z a zs → z.ownBlock ≠ some G := fun hz => by
    rcases Far.of_type hz h.own hc.ne with e | e
    · rw [e]; exact fun e => by cases e
    · exact e
  refine ⟨⟨hB.1.setCell hG (.inl h.fresh) _, own_other hB.2 h.ne⟩, fun j v hv => own_other (hF j v hv) (far (hF j v hv)), own_cell h.own k u, h.ne, h.fresh, fun j z hj hz => ?_, fun j z hj hz => ?_⟩
  · rcases Nat.lt_succ_iff_lt_or_eq.1 hj with hj | rfl
    · rw [List.getElem?_set_ne (by omega)] at hz
      exact own_other (h.row j z hj hz) (far (h.row j z hj hz))
    · rw [List.getElem?_set] at hz
      simp only [if_true] at hz
      split at hz
      · injection hz with hz
        subst hz
        exact own_other hu (far hu)
      · cases hz
  · rcases Nat.lt_succ_iff_lt_or_eq.1 hj with hj | rfl
    · rw [List.getElem?_set_ne (by omega)] at hz
      exact h.far j z hj hz
    · rw [List.getElem?_set] at hz
      simp only [if_true] at hz
      split at hz
      · injection hz with hz
        subst hz
        exact fun i v hi hv => hn.vs i v hi hv
      · cases hz
/-- the second lists' list is made -/
theorem gs_new {c : Ctx} {wx w1 : World} (hB : Bas c wx) {us : List Value} (h : w1.ownsRow c.B0 c.S 1 (.slice (some ⟨wx.heap.size, 0, none⟩) c.K c.K) c.K us) {m : Nat} {ys : Nat → List Value} : Gs c wx.heap.size us 0 m ys w1 :=
  ⟨h, fun e => by have := own_lt hB.2 _ e; omega, hB.1.size, fun j u hj => by omega, fun j u hj => by omega⟩
theorem Gs.get {c : Ctx} {G k m : Nat} {us : List Value} {ys : Nat → List Value} {wx : World} (h : Gs c G us k m ys wx) {j : Nat} (hj : j < c.K) : ∃ u, us[j]? = some u ∧ wx.cell? ⟨G, j, none⟩ = some u := by
  have h1 := h.own.1
  refine ⟨us[j]'(by omega), List.getElem?_eq_getElem (by omega), own_at h.own _ _ (List.getElem?_eq_getElem (by omega))⟩
theorem Gs.lt {c : Ctx} {G k m : Nat} {us : List Value} {ys : Nat → List Value} {wx : World} (h : Gs c G us k m ys wx) : c.B0 ≤ G ∧ G < wx.heap.size := h.own.lt G rfl
theorem below_of_grown {w w1 : World} (h : w.grownBy w1 none) : Below w.heap.size w w1 := ⟨h.os, h.tape, h.output, h.size, fun j hj => h.block j hj (fun e => by cases e)⟩
theorem bel_drew {w w1 : World} (h : Below w.drew.heap.size w.drew w1) : Below w.heap.size w w1 := (Below.refl _ _).drew.trans h
theorem cel_keep {w w' : World} {g i : Nat} {v : Value} (hb : Below w.heap.size w w') (h : w.cell? ⟨g, i, none⟩ = some v) : w'.cell? ⟨g, i, none⟩ = some v := by
  have hg : g < w.heap.size := by
    rcases Nat.lt_or_ge g w.heap.size with hl | hg
    · exact hl
    · simp [World.cell?, Array.getElem?_eq_none hg] at h
  rw [hb.cell (p := ⟨g, i, none⟩) hg]
  exact h
theorem fro_keep {w w' : World} {g i : Nat} (hb : Below w.heap.size w w') (hg : g < w.heap.size) (h : w.frozen? ⟨g, i, none⟩ = false) : w'.frozen? ⟨g, i, none⟩ = false := by
  rw [hb.frozen (p := ⟨g, i, none⟩) hg]
  exact h
/-- one element more behind the list that is gathered -/
theorem gather {c : Ctx} (hc : c.Ok) {G k m n : Nat} {us : List Value} {ys : Nat → List Value} {wx w1 : World} {u v' : Value} {zs : List Value} (hM : Mar c wx) (hG : Gs c G us k m ys wx) (hn : Now c us k u) (hu : wx.ownsRow c.B0 c.E c.sz u n zs) (hk : c.ns k ≤ n)
    (hg : wx.grownBy w1 u.ownBlock) (hat : v'.ownBlock = u.ownBlock ∨ v'.ownBlock = some wx.heap.size) (hs : ∀ (b0 : Nat) (z : Value) (m : Nat) (zs : List Value), wx.ownsRow b0 c.E c.sz z m zs → m ≤ n → w1.ownsRow b0 c.E c.sz z m zs) :
    Mar c w1 ∧ Gs c G us k m ys w1 ∧ Now c us k v' :=
  ⟨⟨app_bas hc hM.1 hu hg hn.may, app_fam hM.2 hn hg hs hk⟩, app_gs hc hG hu hn hg, Now.append hM.1 hM.2 hG hn hat⟩
theorem bel_step {w w1 w2 : World} (h : Below w.heap.size w w1) (h' : Below w1.heap.size w1 w2) : Below w.heap.size w w2 := h.trans (h'.mono h.size)
/-- a block that is none of theirs -/
structure Free (c : Ctx) (G : Nat) (us : List Value) (k M : Nat) : Prop where
  low : c.B0 ≤ M
  fresh : c.w.heap.size ≤ M
  ls : c.lsv.ownBlock ≠ some M
  gs : G ≠ M
  vs : ∀ (j : Nat) (v : Value), c.vs[j]? = some v → v.ownBlock ≠ some M
  us : ∀ (j : Nat) (u : Value), j < k → us[j]? = some u → u.ownBlock ≠ some M
theorem Free.new {c : Ctx} (hc : c.Ok) {G k m : Nat} {us : List Value} {ys : Nat → List Value} {wx : World} (hM : Mar c wx) (hG : Gs c G us k m ys wx) : Free c G us k wx.heap.size :=
  ⟨Nat.le_trans hc.low hM.1.1.size, hM.1.1.size, fun e => by have := own_lt hM.1.2 _ e; omega, by have := hG.lt.2; omega, fun j v hv e => by have := own_lt (hM.2 j v hv) _ e; omega, fun j u hj hu e => by have := own_lt (hG.row j u hj hu) _ e; omega⟩
theorem Free.store {c : Ctx} {G k m M : Nat} {us : List Value} {ys : Nat → List Value} {wx : World} (hF : Free c G us k M) (hM : Mar c wx) (hG : Gs c G us k m ys wx) (o : Nat) (news : List Value) : Mar c (wx.setCells M o news) ∧ Gs c G us k m ys (wx.setCells M o news) :=
  ⟨⟨hM.1.cells hF.low (.inl hF.fresh) hF.ls o news, fun j v hv => own_others (hF.vs j v hv) news wx o (hM.2 j v hv)⟩,
    own_others (by simp only [Value.ownBlock, ne_eq, Option.some.injEq]; exact hF.gs) news wx o hG.own, hG.ne, hG.fresh, fun j u hj hu => own_others (hF.us j u hj hu) news wx o (hG.row j u hj hu), hG.far⟩
theorem many_store {mk : Nat → Nat → List Value} {base sz n g cap k i : Nat} {e : TypeId} {w : World} (hl : ∀ k i, (mk k i).length = sz) (hi : i < n) {rest : List Value} (h : w.ownsRow base e sz (.slice (some ⟨g, 0, none⟩) n cap) n (marks mk k i ++ rest)) :
    ∃ rest', (w.setCells g (i * sz) (mk k i)).ownsRow base e sz (.slice (some ⟨g, 0, none⟩) n cap) n (marks mk k (i + 1) ++ rest') := by
  have h1 := h.1
  rw [List.length_append, marks_length hl] at h1
  have h4 : (i + 1) * sz ≤ n * sz := Nat.mul_le_mul_right _ hi
  rw [Nat.add_mul, Nat.one_mul] at h4
  refine ⟨rest.drop sz, ?_⟩
  have hsp : rest = rest.take sz ++ rest.drop sz := (List.take_append_drop _ _).symm
  rw [hsp] at h
  have := own_seg (mk k i) (rest.take sz) (marks mk k i) (rest.drop sz) w (by rw [hl, List.length_take]; omega) h
  rw [marks_length hl] at this
  rw [marks_succ, List.append_assoc]
  exact this
theorem many_done {mk : Nat → Nat → List Value} {base sz n g cap k : Nat} {e : TypeId} {w : World} {rest : List Value} (h : w.ownsRow base e sz (.slice (some ⟨g, 0, none⟩) n cap) n (marks mk k n ++ rest)) :
    ∀ j u, (marks mk k n)[j]? = some u → w.cell? ((⟨g, 0, none⟩ : Addr).add j) = some u := fun j u hu => by
  have hj : j < (marks mk k n).length := (List.getElem?_eq_some_iff.1 hu).1
  exact h.cells (g := g) rfl j u (by rw [List.getElem?_append_left hj]; exact hu)
/-- the cells of element i of a list that is marked -/
theorem row_cells {mk : Nat → Nat → List Value} {base sz n m k i : Nat} {e : TypeId} {w : World} {v : Value} {ys : List Value} (hl : ∀ k i, (mk k i).length = sz) (h : w.ownsRow base e sz v m (marks mk k n ++ ys)) (hi : i < n) (hm : 0 < m) :
    ∃ g c, v = .slice (some ⟨g, 0, none⟩) m c ∧ ∀ j u, (mk k i)[j]? = some u → w.cell? ⟨g, i * sz + j, none⟩ = some u := by
  obtain ⟨g, c, rfl, _, _, _⟩ := own_block h hm
  exact ⟨g, c, rfl, fun j u hu => own_at h _ _ (marks_get hl hi hu ys)⟩
end Go.Proofs.YtemfmidhekdekaaGreatDoor.Flt
namespace Go.Proofs.YtemfmidhekdekaaGreatDoor.Kb
open Go Go.RowKit

/-- a world that stands behind w -/
structure Beh (w : World) where
  fin : World
  ok : Below w.heap.size w fin
instance (w : World) : Inhabited (Beh w) := ⟨⟨w, Below.refl _ _⟩⟩
/-- the walk in the order of the text, behind a name that no tactic lays open -/
structure Qw (P : Program) (ops : Array Oper) (C : World → Prop) (Q : Act → Prop) (l : List Oper) (a : Act) : Prop where
  out : wpQuiet P ops C Q l a
theorem Qw_step {P : Program} {ops : Array Oper} {C : World → Prop} {Q : Act → Prop} {a : Act} {o : Oper} {rest : List Oper}
    (h : ∀ K : Act → Prop, (∀ a, Qw P ops C Q rest a → K a) → if Region.wanted o (yielded ops a.tmps) then o.quiet P a C K else K (a.put o.dst undef)) : Qw P ops C Q (o :: rest) a :=
  ⟨wpQuiet_step fun K hK => h K fun a hq => hK a hq.out⟩
theorem Qw_nil {P : Program} {ops : Array Oper} {C : World → Prop} {Q : Act → Prop} {a : Act} (h : Q a) : Qw P ops C Q [] a := ⟨wpQuiet_nil h⟩
theorem wp_region_beh {P : Program} {id : Nat} {Q : Exit → Act → World → Prop} {a : Act} {w : World} {l : List Oper} (hm : P.follows .mixedOrders = true) (hB : Region.lexB .any l.toArray = true)
    (h : Qw P l.toArray (fun w' => ∃ p : Beh w, w' = p.fin) (fun a' => ∀ w', (∃ p : Beh w, w' = p.fin) → Q .normal a' w') l a) : (Code.region id l.toArray true).wp P Q a w :=
  wp_region_quiet (C := fun w' => ∃ p : Beh w, w' = p.fin) hm hB ⟨⟨_, (Below.refl _ w).drew⟩, rfl⟩ (by simpa using h.out)
theorem beh_cell {w : World} {b i : Nat} {v : Value} (h : w.cell? ⟨b, i, none⟩ = some v) : ∀ x : Beh w, x.fin.cell? ⟨b, i, none⟩ = some v := fun x => by
  rw [x.ok.cell (p := ⟨b, i, none⟩) (cell_lt h)]
  exact h
theorem Calls.beh_of {P : Program} {f : FuncId} {args : Array Value} {w : World} {x : Beh w} {v : Value}
    (h : Calls P f args x.fin fun e w' => e = .returned v ∧ Below x.fin.heap.size x.fin w') : Calls P f args x.fin fun e w' => e = .returned v ∧ ∃ y : Beh w, w' = y.fin :=
  h.mono fun _ w' ⟨he, hb⟩ => ⟨he, ⟨w', x.ok.trans (hb.mono x.ok.size)⟩, rfl⟩
end Go.Proofs.YtemfmidhekdekaaGreatDoor.Kb
namespace Go.Proofs.YtemfmidhekdekaaGreatDoor.Emk
open Go Go.RowKit Go.Proofs.YtemfmidhekdekaaGreatDoor.Kb

theorem set_first (pre post : List Value) (p v x : Value) : (pre ++ p :: v :: post).toArray.setIfInBounds pre.length x = (pre ++ x :: v :: post).toArray := by
  apply Array.ext'
  simp
theorem set_second (pre post : List Value) (p v x : Value) : (pre ++ p :: v :: post).toArray.setIfInBounds (pre.length + 1) x = (pre ++ p :: x :: post).toArray := by
  apply Array.ext'
  simp
/-- the builder at place pre.length of block b holds these bytes, in a row of its own from B on; p: whom it knows -/
def At (T : TypeId) (pre post : List Value) (B b : Nat) (p : Value) (acc : List UInt8) (w : World) : Prop :=
  ∃ v, w.heap[b]? = some (.cells (pre ++ p :: v :: post).toArray T (0, 0)) ∧ w.ownsRow B 5 1 v acc.length (Lib.byteCells acc) ∧ v.ownBlock ≠ some b
def Is (T : TypeId) (pre post : List Value) (B b : Nat) (acc : List UInt8) (w : World) : Prop := At T pre post B b (.pointer none) acc w ∨ At T pre post B b (.pointer (some ⟨b, pre.length, none⟩)) acc w
section
variable {T : TypeId} {pre post : List Value} {B b : Nat} {p : Value} {acc : List UInt8} {w w' : World}
theorem At.lt (h : At T pre post B b p acc w) : b < w.heap.size := by
  obtain ⟨v, hb, _⟩ := h
  exact (Array.getElem?_eq_some_iff.1 hb).1
theorem Is.lt (h : Is T pre post B b acc w) : b < w.heap.size := h.elim At.lt At.lt
theorem At.below (h : At T pre post B b p acc w) (hb : Below w.heap.size w w') : At T pre post B b p acc w' := by
  have hl := h.lt
  obtain ⟨v, h1, h2, h3⟩ := h
  refine ⟨v, (hb.block b hl).trans h1, ?_, h3⟩
  exact h2.kept (row := none) ⟨hb.os, hb.tape, hb.output, hb.size, fun j hj _ => hb.block j hj⟩ (by cases hv : v.ownBlock <;> simp)
theorem Is.below (h : Is T pre post B b acc w) (hb : Below w.heap.size w w') : Is T pre post B b acc w' := h.imp (·.below hb) (·.below hb)
theorem Is.any (h : Is T pre post B b acc w) : ∃ p, (p = .pointer none ∨ p = .pointer (some ⟨b, pre.length, none⟩)) ∧ At T pre post B b p acc w := by
  rcases h with h | h
  · exact ⟨_, .inl rfl, h⟩
  · exact ⟨_, .inr rfl, h⟩
theorem At.cell0 (h : At T pre post B b p acc w) : w.cell? ⟨b, pre.length, none⟩ = some p := by
  obtain ⟨v, h1, _⟩ := h
  rw [cell_of_row w b _ _ _ _ h1]
  simp
theorem At.shape (h : At T pre post B b p acc w) : w.shape? b = some (T, pre.length + 2 + post.length) := by
  obtain ⟨v, h1, _⟩ := h
  simp only [World.shape?, h1]
  simp
  omega
end
theorem infoB : (Tryz.prog.info? 52).map (·.size) = some 2 := by kernel_rfl
theorem infoU : (Tryz.prog.info? 5).map (fun i => (i.zero, i.size, i.bytes)) = some (some (.int .u8 0), 1, 1) := by kernel_rfl
set_option maxRecDepth 100000 in
theorem check_new {T : TypeId} {n b o : Nat} {w : World} (h0 : w.cell? ⟨b, o, none⟩ = some (.pointer none)) (hsh : w.shape? b = some (T, n)) (ho : o < n) (hfz : w.frozen? ⟨b, o, none⟩ = false) (hlies : liesAt Tryz.prog Tryz.prog.depth T (n / Tryz.prog.cellsOf T) o 52 1 = true) :
    Calls Tryz.prog 73 #[.pointer (some ⟨b, o, none⟩)] w fun e w' => e = .returned (.tuple #[]) ∧ w' = w.setCell ⟨b, o, none⟩ (.pointer (some ⟨b, o, none⟩)) := by
  obtain ⟨j, hj, hjs⟩ := Option.map_eq_some_iff.1 infoB
  go_enter Tryz.func73, Tryz.ntmps73
  go_wp2
  rw [Lib.run_to_unsafe w ⟨b, o, none⟩ Tryz.underlying49 Tryz.underlying107 hj (by rw [hjs]; decide) hsh ho]
  simp only [Result.andThen]
  rw [Oper.upon_value]
  go_wp2
  rw [run_callFunc_extern Tryz.func98 (by kernel_rfl) (by kernel_rfl) (by kernel_rfl) (e := Extern.AbiNoEscape.same) (by kernel_rfl)]
  rw [Lib.run_noEscape]
  simp only [Result.andThen]
  rw [Oper.upon_value]
  go_wp2
  rw [Lib.run_from_unsafe w ⟨b, o, none⟩ Tryz.underlying107 Tryz.underlying49 hj hsh hlies]
  simp only [Result.andThen]
  rw [Oper.upon_value]
  go_wp2
  go_end0
  exact ⟨rfl, rfl⟩
set_option maxRecDepth 100000 in
theorem check_used {b o : Nat} {w : World} (h0 : w.cell? ⟨b, o, none⟩ = some (.pointer (some ⟨b, o, none⟩))) :
    Calls Tryz.prog 73 #[.pointer (some ⟨b, o, none⟩)] w fun e w' => e = .returned (.tuple #[]) ∧ w' = w := by
  obtain ⟨j, hj, _⟩ := Option.map_eq_some_iff.1 infoB
  go_enter Tryz.func73, Tryz.ntmps73
  go_wp2
  rw [Lib.run_neq_ptr_same w _ Tryz.underlying49 hj]
  go_wp2
  go_end0
  exact ⟨rfl, rfl⟩
theorem check_any {T : TypeId} {pre post : List Value} {B b : Nat} {acc : List UInt8} {w : World} (hB : B ≤ b) (h : Is T pre post B b acc w) (hlies : liesAt Tryz.prog Tryz.prog.depth T ((pre.length + 2 + post.length) / Tryz.prog.cellsOf T) pre.length 52 1 = true) :
    Calls Tryz.prog 73 #[.pointer (some ⟨b, pre.length, none⟩)] w fun e w' => e = .returned (.tuple #[]) ∧ At T pre post B b (.pointer (some ⟨b, pre.length, none⟩)) acc w' ∧ Below B w w' ∧ Lib.OthersKept 5 (some b) w w' := by
  rcases h with h | h
  · have h0 := h.cell0
    have hs := h.shape
    obtain ⟨v, h1, h2, h3⟩ := h
    refine (check_new h0 hs (by omega) (Joins.unfrozen_of_block h1 _) hlies).mono ?_
    rintro e w' ⟨rfl, rfl⟩
    refine ⟨rfl, ⟨v, ?_, ?_, h3⟩, (Below.refl B w).setCell (p := ⟨b, pre.length, none⟩) hB _, (Lib.OthersKept.refl _ _ w).setCell ⟨b, pre.length, none⟩ rfl _⟩
    · rw [Joins.block_setCell h1, set_first]
    · exact Flt.own_other h2 h3
  · refine (check_used h.cell0).mono ?_
    rintro e w' ⟨rfl, rfl⟩
    exact ⟨rfl, h, Below.refl _ _, Lib.OthersKept.refl _ _ _⟩
theorem put_second {T : TypeId} {pre post : List Value} {B b : Nat} {p v v' : Value} {acc : List UInt8} {w : World} (h : w.heap[b]? = some (.cells (pre ++ p :: v :: post).toArray T (0, 0))) (ho : w.ownsRow B 5 1 v' acc.length (Lib.byteCells acc)) (hne : v'.ownBlock ≠ some b) :
    At T pre post B b p acc (w.setCell ⟨b, pre.length + 1, none⟩ v') := ⟨v', by rw [Joins.block_setCell h, set_second], Flt.own_other ho hne, hne⟩
theorem own_block_ne {w : World} {B b n : Nat} {T : TypeId} {cs : Array Value} {v : Value} {xs : List Value} (hb : w.heap[b]? = some (.cells cs T (0, 0))) (hT : T ≠ 5) (h : w.ownsRow B 5 1 v n xs) : v.ownBlock ≠ some b := by
  rcases h.2 with ⟨rfl, _⟩ | ⟨g, cap, cur, rfl, _, hg, _⟩
  · simp [Value.ownBlock]
  · intro e
    have e : g = b := by simpa [Value.ownBlock] using e
    subst e
    rw [hb] at hg
    injection hg with e
    injection e with e1 e2 e3
    exact hT e2
set_option maxRecDepth 100000 in
set_option maxHeartbeats 2000000 in
/-- WriteString on a builder within a struct -/
theorem write_any {T : TypeId} {pre post : List Value} {B b : Nat} {acc : List UInt8} {w : World} (s : ByteArray) (hT : T ≠ 5) (hB : B ≤ b) (h : Is T pre post B b acc w) (hlies : liesAt Tryz.prog Tryz.prog.depth T ((pre.length + 2 + post.length) / Tryz.prog.cellsOf T) pre.length 52 1 = true) (hl : acc.length + s.size ≤ 1000000000000) :
    Calls Tryz.prog 43 #[.pointer (some ⟨b, pre.length, none⟩), .string s] w fun e w' => e = .returned (.tuple #[.int .i64 s.size, .nilIface]) ∧ Is T pre post B b (acc ++ s.data.toList) w' ∧ Below B w w' ∧ Lib.OthersKept 5 (some b) w w' := by
  obtain ⟨i0, hi, hz0, hz1, hz2⟩ := info_parts infoU
  have hlt := h.lt
  have CC := Kept.mk (check_any hB h hlies)
  clear h hlies
  go_enter Tryz.func43, Tryz.ntmps43
  go_wp2_with (go_at_call 73; refine CC.out.mono ?_)
  rintro e w1 ⟨rfl, ⟨v, hbk, hown, hne⟩, hb1, hk1⟩
  have HK1 := Kept.mk hk1
  have c1 : w1.cell? ⟨b, pre.length + 1, none⟩ = some v := by rw [cell_of_row w1 b _ _ _ _ hbk]; simp
  have HB1 := Kept.mk hb1
  have HBK := Kept.mk hbk
  have HOWN := Kept.mk hown
  have hlt1 : b < w1.heap.size := (Array.getElem?_eq_some_iff.1 hbk).1
  have hz1' : B ≤ w1.heap.size := by omega
  clear hb1 hbk hown hk1
  go_wp2_with (at_builtin; refine Lib.wpList_append_own_string _ rfl (.tmp 12) (.tmp 13) 50 9 rfl B 5 i0 Tryz.underlying50 Tryz.underlying9 hi hz0 hz1 hz2 v acc.length (Lib.byteCells acc) (by rfl) HOWN.out s (by rfl) (by unfold maxLen; omega) (by omega) hz1' ?_; intro v2 w2 hown2 hgrow2 _; obtain ⟨A2, e2, rfl, _⟩ := Flt.own_slice hown2; have hb2 := (hgrow2.block b hlt1 (fun e => hne e.symm)).trans HBK.out; have hne2 := own_block_ne hb2 hT hown2; have f2 : w2.frozen? ⟨b, pre.length + 1, none⟩ = false := Joins.unfrozen_of_block hb2 _; have c2 : w2.cell? ⟨b, pre.length + 1, none⟩ = some v := (by rw [cell_of_row w2 b _ _ _ _ hb2]; simp); have B2 := Kept.mk (Below.grown HB1.out hgrow2 hz1' (fun k hk => (HOWN.out.lt k hk).1)); have H2 := Kept.mk hb2; have K2 := Kept.mk (HK1.out.grown hgrow2 (Lib.ownsRowF_kind (World.ownsRowF_of HOWN.out))); have O2 := Kept.mk hown2; clear hb2 hown2 hgrow2)
  go_ret2
  have hO : w2.ownsRow B 5 1 (.slice A2 (acc.length + s.size) e2) (acc ++ s.data.toList).length (Lib.byteCells (acc ++ s.data.toList)) := by
    have h := O2.out
    rw [Lib.byteCells_append, List.length_append]
    exact h
  exact ⟨rfl, .inr (put_second H2.out hO hne2), B2.out.setCell (p := ⟨b, pre.length + 1, none⟩) hB _, K2.out.setCell ⟨b, pre.length + 1, none⟩ rfl _⟩
set_option maxRecDepth 100000 in
set_option maxHeartbeats 2000000 in
/-- WriteByte on a builder within a struct -/
theorem byte_any {T : TypeId} {pre post : List Value} {B b : Nat} {acc : List UInt8} {w : World} (c : UInt8) (hT : T ≠ 5) (hB : B ≤ b) (h : Is T pre post B b acc w) (hlies : liesAt Tryz.prog Tryz.prog.depth T ((pre.length + 2 + post.length) / Tryz.prog.cellsOf T) pre.length 52 1 = true) (hl : acc.length ≤ 1000000000000) :
    Calls Tryz.prog 44 #[.pointer (some ⟨b, pre.length, none⟩), .int .u8 (c.toNat : Int)] w fun e w' => e = .returned .nilIface ∧ Is T pre post B b (acc ++ [c]) w' ∧ Below B w w' ∧ Lib.OthersKept 5 (some b) w w' := by
  obtain ⟨i0, hi, hz0, hz1, hz2⟩ := info_parts infoU
  have hlt := h.lt
  have CC := Kept.mk (check_any hB h hlies)
  clear h hlies
  go_enter Tryz.func44, Tryz.ntmps44
  go_wp2_with (go_at_call 73; refine CC.out.mono ?_)
  rintro e w1 ⟨rfl, ⟨v, hbk, hown, hne⟩, hb1, hk1⟩
  have HK1 := Kept.mk hk1
  have c1 : w1.cell? ⟨b, pre.length + 1, none⟩ = some v := by rw [cell_of_row w1 b _ _ _ _ hbk]; simp
  have HB1 := Kept.mk hb1
  have HBK := Kept.mk hbk
  have HOWN := Kept.mk hown
  have hlt1 : b < w1.heap.size := (Array.getElem?_eq_some_iff.1 hbk).1
  have hz1' : B ≤ w1.heap.size := by omega
  clear hb1 hbk hown hk1
  go_wp2_with (at_builtin; refine wpList_append_own _ rfl (.tmp 11) (.tmp 13) 50 rfl B 5 i0 (.int .u8 0) 1 1 Tryz.underlying50 hi hz0 hz1 hz2 rfl (by decide) v acc.length (Lib.byteCells acc) (by rfl) (HOWN.out.alloc _) ⟨w1.heap.size, 0, none⟩ 1 1 [.int .u8 (c.toNat : Int)] (by rfl) (by rfl) (World.news_of_block (heap_alloc_new _ _)) (by intro u hu; simp at hu; subst hu; rfl) (by unfold maxLen; omega) (by omega) (by simp; omega) ?_; intro v2 w2 hown2 hgrow2 _; obtain ⟨A2, e2, rfl, _⟩ := Flt.own_slice hown2; have hb2 := (hgrow2.block b (by simp; omega) (fun e => hne e.symm)).trans ((Lib.alloc_old w1 _ b hlt1).trans HBK.out); have hne2 := own_block_ne hb2 hT hown2; have f2 : w2.frozen? ⟨b, pre.length + 1, none⟩ = false := Joins.unfrozen_of_block hb2 _; have c2 : w2.cell? ⟨b, pre.length + 1, none⟩ = some v := (by rw [cell_of_row w2 b _ _ _ _ hb2]; simp); have B2 := Kept.mk (Below.grown (HB1.out.alloc hz1' _) hgrow2 (by simp; omega) (fun k hk => (HOWN.out.lt k hk).1)); have H2 := Kept.mk hb2; have K2 := Kept.mk ((HK1.out.alloc _).grown hgrow2 (Lib.ownsRowF_kind (World.ownsRowF_of (HOWN.out.alloc _)))); have O2 := Kept.mk hown2; clear hb2 hown2 hgrow2)
  go_ret
  have hO : w2.ownsRow B 5 1 (.slice A2 (acc.length + 1) e2) (acc ++ [c]).length (Lib.byteCells (acc ++ [c])) := by
    have h := O2.out
    rw [Lib.byteCells_append, List.length_append]
    exact h
  exact ⟨rfl, .inr (put_second H2.out hO hne2), B2.out.setCell (p := ⟨b, pre.length + 1, none⟩) hB _, K2.out.setCell ⟨b, pre.length + 1, none⟩ rfl _⟩
theorem cells_u8 : Tryz.prog.cellsOf 5 = 1 := by kernel_rfl
theorem unsafe_none (W : World) (q : Option Addr) : (Builtin.unsafeString_ #[84, 3] 9 #[.pointer q, .int .i64 0]).run Tryz.prog W = .ok (.string ⟨#[]⟩) W := by
  exact Lib.run_unsafeString_none W _ _ _ q
/-- what String leaves of the block in which the builder lies -/
def Left (T : TypeId) (pre post : List Value) (b : Nat) (w : World) : Prop := ∃ p v, w.heap[b]? = some (.cells (pre ++ p :: v :: post).toArray T (0, 0))
set_option maxRecDepth 100000 in
set_option maxHeartbeats 2000000 in
/-- String on a builder within a struct -/
theorem string_any {T : TypeId} {pre post : List Value} {B b : Nat} {acc : List UInt8} {w : World} (hBw : B ≤ b) (h : Is T pre post B b acc w) :
    Calls Tryz.prog 30 #[.pointer (some ⟨b, pre.length, none⟩)] w fun e w' => e = .returned (.string ⟨acc.toArray⟩) ∧ Left T pre post b w' ∧ Below B w w' ∧ Lib.OthersKept 5 (some b) w w' := by
  have hlt := h.lt
  obtain ⟨p, _, v, hbk, hown, hne⟩ := h.any
  clear h
  have hL : Left T pre post b w := ⟨p, v, hbk⟩
  have hc1 : ∀ v', v' = v → w.drew.cell? ⟨b, pre.length + 1, none⟩ = some v' := fun v' e => by
    subst e
    have : w.drew.heap[b]? = some (.cells (pre ++ p :: v' :: post).toArray T (0, 0)) := hbk
    rw [cell_of_row w.drew b _ _ _ _ this]; simp
  have mixed : Tryz.prog.follows .mixedOrders = true := by kernel_rfl
  by_cases h0 : acc = []
  · subst h0
    have hUS := unsafe_none
    rcases hown.2 with ⟨rfl, _⟩ | ⟨g, cap, cur, rfl, hbg, hg, _, _, _, _⟩
    · have c1 := hc1 _ rfl
      have hSD : (Builtin.unsafeSliceData_ #[50] 84 #[.slice none 0 0]).run Tryz.prog w.drew = .ok (.pointer none) w.drew := rfl
      have HL := Kept.mk hL
      clear hL hc1 hown hbk
      go_enter Tryz.func30, Tryz.ntmps30
      go_wp2
      go_region_o
      all_goals (go_wp2; go_ret; exact ⟨rfl, HL.out, (Below.refl _ _).drew, (Lib.OthersKept.refl _ _ w).drew⟩)
    · by_cases hz : cap = 0
      · subst hz
        have hSD : (Builtin.unsafeSliceData_ #[50] 84 #[.slice (some ⟨g, 0, none⟩) 0 0]).run Tryz.prog w.drew = .ok (.pointer (some ⟨w.drew.heap.size, 0, none⟩)) (w.drew.alloc (.view ⟨g, 0, none⟩ 5)) :=
          Lib.run_unsafeSliceData_zero w.drew _ _ 5 Tryz.underlying84 ⟨g, 0, none⟩ 0 (5, cur.size) (by have hg' : w.drew.heap[g]? = some (.cells cur 5 (0, 0)) := hg; simp [World.shape?, hg'])
        have c1 := hc1 _ rfl
        have hb2 : (w.drew.alloc (.view ⟨g, 0, none⟩ 5)).heap[b]? = some (.cells (pre ++ p :: .slice (some ⟨g, 0, none⟩) 0 0 :: post).toArray T (0, 0)) := (Lib.alloc_old w.drew _ b hlt).trans hbk
        have c2 : (w.drew.alloc (.view ⟨g, 0, none⟩ 5)).cell? ⟨b, pre.length + 1, none⟩ = some (.slice (some ⟨g, 0, none⟩) 0 0) := by
          rw [cell_of_row _ b _ _ _ _ hb2]; simp
        have c3 : (w.alloc (.view ⟨g, 0, none⟩ 5)).drew.cell? ⟨b, pre.length + 1, none⟩ = some (.slice (some ⟨g, 0, none⟩) 0 0) := c2
        have c0 : w.cell? ⟨b, pre.length + 1, none⟩ = some (.slice (some ⟨g, 0, none⟩) 0 0) := c1
        have HL : Kept (Left T pre post b (w.drew.alloc (.view ⟨g, 0, none⟩ 5))) := ⟨⟨p, _, hb2⟩⟩
        clear hL hc1 hown hbk hb2
        go_enter Tryz.func30, Tryz.ntmps30
        go_wp2
        go_region_o
        all_goals (go_wp2; go_ret; exact ⟨rfl, HL.out, ((Below.refl _ _).drew).alloc (by show B ≤ w.heap.size; omega) _, ((Lib.OthersKept.refl _ _ w).drew).alloc _⟩)
      · have hSD : (Builtin.unsafeSliceData_ #[50] 84 #[.slice (some ⟨g, 0, none⟩) 0 cap]).run Tryz.prog w.drew = .ok (.pointer (some ⟨g, 0, none⟩)) w.drew := Lib.run_unsafeSliceData_row _ _ _ _ _ _ hz
        have c1 := hc1 _ rfl
        have HL := Kept.mk hL
        clear hL hc1 hown hbk hz
        go_enter Tryz.func30, Tryz.ntmps30
        go_wp2
        go_region_o
        all_goals (go_wp2; go_ret; exact ⟨rfl, HL.out, (Below.refl _ _).drew, (Lib.OthersKept.refl _ _ w).drew⟩)
  · have hl0 : acc.length ≠ 0 := by simpa using h0
    obtain ⟨g, cap, cur, rfl, hbg, hg, hnc, hcm, hcs, htake⟩ : ∃ g cap cur, v = .slice (some ⟨g, 0, none⟩) acc.length cap ∧ B ≤ g ∧ w.heap[g]? = some (.cells cur 5 (0, 0)) ∧ acc.length ≤ cap ∧ cap ≤ maxLen ∧ cur.size = cap * 1 ∧ cur.toList.take (acc.length * 1) = Lib.byteCells acc := by
      rcases hown.2 with ⟨_, hz⟩ | ⟨g, cap, cur, hv, r⟩
      · exact absurd hz hl0
      · exact ⟨g, cap, cur, hv, r⟩
    have c1 := hc1 _ rfl
    have hSD : (Builtin.unsafeSliceData_ #[50] 84 #[.slice (some ⟨g, 0, none⟩) acc.length cap]).run Tryz.prog w.drew = .ok (.pointer (some ⟨g, 0, none⟩)) w.drew := Lib.run_unsafeSliceData_row _ _ _ _ _ _ (by omega)
    have hUS : (Builtin.unsafeString_ #[84, 3] 9 #[.pointer (some ⟨g, 0, none⟩), .int .i64 acc.length]).run Tryz.prog w.drew = .ok (.string ⟨acc.toArray⟩) (w.drew.freeze ⟨g, 0, none⟩ acc.length) := by
      refine Lib.run_unsafeString_row w.drew 84 3 9 5 Tryz.underlying84 cells_u8 g cur.size (by have hg' : w.drew.heap[g]? = some (.cells cur 5 (0, 0)) := hg; simp [World.shape?, hg']) acc h0 (by omega) (by unfold maxLen at hcm; omega) ?_
      intro j x hx
      have := hown.cells (g := g) rfl j (.int .u8 x.toNat) (by simp [Lib.byteCells, hx])
      exact this
    have hgb : g ≠ b := fun e => hne (by rw [e]; rfl)
    have hbf : (w.drew.freeze ⟨g, 0, none⟩ acc.length).heap[b]? = w.heap[b]? := by
      unfold World.freeze
      split
      · rfl
      · simp only [Array.getElem?_modify]
        rw [if_neg hgb]
        rfl
    have HL : Kept (Left T pre post b (w.drew.freeze ⟨g, 0, none⟩ acc.length)) := ⟨⟨p, _, hbf.trans hbk⟩⟩
    have HB : Kept (Below B w (w.drew.freeze ⟨g, 0, none⟩ acc.length)) := ⟨Lib.below_freeze (Below.drew (Below.refl B w)) (p := ⟨g, 0, none⟩) hbg _⟩
    have HK : Kept (Lib.OthersKept 5 (some b) w (w.drew.freeze ⟨g, 0, none⟩ acc.length)) := ⟨((Lib.OthersKept.refl _ _ w).drew).freeze ⟨g, 0, none⟩ _ ⟨cur, _, hg⟩⟩
    clear hL hc1 hown hbk hbf hg htake
    go_enter Tryz.func30, Tryz.ntmps30
    go_wp2
    go_region_o
    all_goals (go_wp2; go_ret; exact ⟨rfl, HL.out, HB.out, HK.out⟩)
end Go.Proofs.YtemfmidhekdekaaGreatDoor.Emk
