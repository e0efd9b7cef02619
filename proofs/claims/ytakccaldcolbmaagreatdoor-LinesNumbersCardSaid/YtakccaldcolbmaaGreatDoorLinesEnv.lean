/- From the listed package variables, and the world's shape, to what the walks of chapter 31 read of memory. -/
import Derived.Test.YtakccaldcolbmaaGreatDoorLinesNum
import Derived.Test.YtakccaldcolbmaaGreatDoorRows
import Derived.Lib.LaidU8T
import Derived.Shelf.Vars
import Derived.SizedLaws
namespace Go.Proofs.YtakccaldcolbmaaGreatDoor.Wln
open Go Go.RowKit Go.Lib Go.ChangeShapes Go.WideShapes Go.Deep Go.Proofs.YtakccaldcolbmaaGreatDoor.Kb

theorem tab_of_reads {n : String} {g t e N : Nat} {k : IntKind} {zs : List Int} {W : World} (hn : Tryz.prog.globalNamed n = some g) (ht : (Tryz.prog.globals[g]?).map (·.type) = some t)
    (ha : Tryz.prog.underlying t = some (.array N e)) (he : Tryz.prog.underlying e = some (.int k)) (hce : Tryz.prog.cellsOf e = 1) (hct : Tryz.prog.cellsOf t = N) (h : VarReads Tryz.prog W n (tabData k zs)) : Lib.TabIs Tryz.prog W n k zs := by
  obtain ⟨g', t', cs, fuel, p, hg, hty, hvar, hd⟩ := h
  obtain rfl := Option.some.inj (hn.symm.trans hg)
  obtain rfl := Option.some.inj (ht.symm.trans hty)
  have hcs := cells_of_tab ha he hce hct hd
  unfold Lib.TabIs
  rw [hvar, ← hcs]
theorem iface_of_reads {n nm : String} {g t : Nat} {d : DataW Unit} {W : World} {ms : Array (String × TypeId)} (hn : Tryz.prog.globalNamed n = some g) (ht : (Tryz.prog.globals[g]?).map (·.type) = some t)
    (hi : Tryz.prog.underlying t = some (.interface ms)) (h : VarReads Tryz.prog W n (.iface nm d)) : ∃ te pe, W.cell? ⟨g, 0, none⟩ = some (.iface te pe) := by
  obtain ⟨g', t', cs, fuel, p, hg, hty, hvar, hd⟩ := h
  obtain rfl := Option.some.inj (hn.symm.trans hg)
  obtain rfl := Option.some.inj (ht.symm.trans hty)
  cases fuel with
  | zero => simp [DataW.trod] at hd
  | succ fuel =>
    simp only [DataW.trod, hi] at hd
    have hcell := World.var?_cell hg hvar 0
    rw [← Array.getElem?_toList] at hcell
    generalize cs.toList = l at hd hcell
    rcases l with _ | ⟨x, _ | ⟨y, l⟩⟩
    · simp at hd
    · cases x with
      | iface u v => exact ⟨u, v, hcell⟩
      | _ => simp at hd
    · simp at hd
/-- an array of texts, as a row lists it -/
def strData (l : List (List UInt8)) : DataW Unit := .agg (l.map fun s => .lit (.string s))
theorem cells_of_strs {H : Type} {enc : TypeId × Value → H} {P : Program} {w : World} {base : Nat} {sp : Nat → Bool} {held : Bool} {fuel : Nat} {t e : TypeId} {n : Nat} {cs : List Value} {l : List (List UInt8)} {p : List MemPlace}
    (ht : P.underlying t = some (.array n e)) (he : P.underlying e = some .string) (hce : P.cellsOf e = 1) (hct : P.cellsOf t = n)
    (h : DataW.trod enc P w base sp held fuel t cs = some (.agg (l.map fun s => .lit (.string s)), p)) : cs = l.map fun x => Value.string ⟨x.toArray⟩ := by
  cases fuel with
  | zero => simp [DataW.trod] at h
  | succ fuel =>
    simp only [DataW.trod, ht, hce, hct, Nat.mul_one] at h
    split at h
    · rename_i hl
      obtain ⟨xs, hm, hx⟩ := Option.map_eq_some_iff.1 h
      have hxs : xs.map (·.1) = l.map fun z => (DataW.lit (.string z) : DataW H) := by
        have := congrArg Prod.fst hx
        simpa using this
      have hxl : xs.length = n := by simpa using mapM_length hm
      have hzl : l.length = n := by
        have := congrArg List.length hxs
        simp at this
        omega
      apply List.ext_getElem?
      intro i
      by_cases hi : i < n
      · obtain ⟨b, hb, hf⟩ := mapM_at hm i i (by simp [hi])
        obtain ⟨z, hc, rfl, _⟩ := DataW.trod_string he hf
        have h1 : cs[i]? = some (.string z) := by
          have := congrArg (·[0]?) hc
          simpa [List.getElem?_take, List.getElem?_drop] using this
        have h2 : (xs.map (·.1))[i]? = some (DataW.lit (.string z.data.toList) : DataW H) := by simp [hb]
        rw [hxs] at h2
        simp only [List.getElem?_map, Option.map_eq_some_iff, DataW.lit.injEq, Lit.string.injEq] at h2
        obtain ⟨z', hz', h2⟩ := h2
        subst h2
        simp [h1, hz']
      · rw [List.getElem?_eq_none (by omega), List.getElem?_eq_none (by simp; omega)]
    · cases h
theorem strs_of_reads {n : String} {g t e N : Nat} {l : List (List UInt8)} {W : World} (hn : Tryz.prog.globalNamed n = some g) (ht : (Tryz.prog.globals[g]?).map (·.type) = some t)
    (ha : Tryz.prog.underlying t = some (.array N e)) (he : Tryz.prog.underlying e = some .string) (hce : Tryz.prog.cellsOf e = 1) (hct : Tryz.prog.cellsOf t = N) (h : VarReads Tryz.prog W n (strData l)) :
    ∃ ty fr, W.heap[g]? = some (.cells (l.map fun x => Value.string ⟨x.toArray⟩).toArray ty fr) := by
  obtain ⟨g', t', cs, fuel, p, hg, hty, hvar, hd⟩ := h
  obtain rfl := Option.some.inj (hn.symm.trans hg)
  obtain rfl := Option.some.inj (ht.symm.trans hty)
  have hcs := cells_of_strs ha he hce hct hd
  unfold World.var? at hvar
  rw [hg] at hvar
  simp only [Option.bind_some] at hvar
  split at hvar
  · rename_i c ty fr hh
    injection hvar with hvar
    subst hvar
    refine ⟨ty, fr, ?_⟩
    rw [hh, ← hcs]
  · cases hvar
theorem mx_of_shaped {W : World} (h : W.ShapedOpen Tryz.prog) : ∃ m : Int, W.cell? ⟨2, 0, none⟩ = some (.int .i64 m) :=
  cell_of_shapedOpen_int (t := 3) (zero := #[.int .i64 0]) h (by decide +kernel) (by kernel_rfl) rfl (by kernel_rfl) (by kernel_rfl) Tryz.underlying3
/-- a verb, as cells -/
def verbC (v : List UInt8 × Int × Int × Bool) : List Value := [.string ⟨v.1.toArray⟩, .int .u8 v.2.1, .int .i64 v.2.2.1, .bool v.2.2.2]
def verbD {H : Type} (v : List UInt8 × Int × Int × Bool) : DataW H := .agg [.lit (.string v.1), .lit (.int .u8 v.2.1), .lit (.int .i64 v.2.2.1), .lit (.bool v.2.2.2)]
def verbsV : List (List UInt8 × Int × Int × Bool) := [([108, 111, 97, 100], 1, 0, true), ([113, 117, 101, 114, 121], 2, 1, true), ([115, 99, 97, 110], 2, 0, true), ([117, 112, 100, 97, 116, 101], 3, 0, true), ([112, 111, 105, 110, 116], 4, 0, false), ([100, 117, 109, 112], 5, 0, false), ([111, 112, 101, 110], 7, 0, false)]
theorem verb_at {H : Type} {enc : TypeId × Value → H} {W : World} {base : Nat} {spare : Nat → Bool} {held : Bool} {n : Nat} {cs : List Value} {v : List UInt8 × Int × Int × Bool} {p : List MemPlace} (h : DataW.trod enc Tryz.prog W base spare held n 131 cs = some (verbD v, p)) : cs = verbC v := by
  have k0 : Tryz.prog.cellsOf 9 = 1 := by kernel_rfl
  have k1 : Tryz.prog.cellsOf 37 = 1 := by kernel_rfl
  have k2 : Tryz.prog.cellsOf 3 = 1 := by kernel_rfl
  have k3 : Tryz.prog.cellsOf 4 = 1 := by kernel_rfl
  have k4 : Tryz.prog.cellsOf 131 = 4 := by kernel_rfl
  obtain ⟨xs, n', _, hxd, hcl, hlen, hf⟩ := DataW.trod_struct Tryz.underlying131 h
  rw [k4] at hcl
  rcases cs with _ | ⟨a, _ | ⟨b, _ | ⟨c, _ | ⟨d, _ | ⟨e, r⟩⟩⟩⟩⟩ <;> simp only [List.length_nil, List.length_cons] at hcl <;> try omega
  have hlen : xs.length = 4 := hlen
  rcases xs with _ | ⟨x0, _ | ⟨x1, _ | ⟨x2, _ | ⟨x3, _ | ⟨x4, r⟩⟩⟩⟩⟩ <;> simp only [List.length_nil, List.length_cons] at hlen <;> try omega
  have h0 : DataW.trod enc Tryz.prog W base spare held n' 9 ((List.drop 0 [a, b, c, d]).take (Tryz.prog.cellsOf 9)) = some x0 := hf 0 _ rfl
  have h1 : DataW.trod enc Tryz.prog W base spare held n' 37 ((List.drop 1 [a, b, c, d]).take (Tryz.prog.cellsOf 37)) = some x1 := hf 1 _ rfl
  have h2 : DataW.trod enc Tryz.prog W base spare held n' 3 ((List.drop 2 [a, b, c, d]).take (Tryz.prog.cellsOf 3)) = some x2 := hf 2 _ rfl
  have h3 : DataW.trod enc Tryz.prog W base spare held n' 4 ((List.drop 3 [a, b, c, d]).take (Tryz.prog.cellsOf 4)) = some x3 := hf 3 _ rfl
  rw [k0] at h0
  rw [k1] at h1
  rw [k2] at h2
  rw [k3] at h3
  obtain ⟨s, e0, y0, _⟩ := DataW.trod_string Tryz.underlying9 (show DataW.trod enc Tryz.prog W base spare held n' 9 [a] = some x0 from h0)
  obtain ⟨zk, e1, y1, _⟩ := DataW.trod_int Tryz.underlying37 (show DataW.trod enc Tryz.prog W base spare held n' 37 [b] = some x1 from h1)
  obtain ⟨zn, e2, y2, _⟩ := DataW.trod_int Tryz.underlying3 (show DataW.trod enc Tryz.prog W base spare held n' 3 [c] = some x2 from h2)
  obtain ⟨zb, e3, y3⟩ := DataW.trod_bool Tryz.underlying4 (show DataW.trod enc Tryz.prog W base spare held n' 4 [d] = some x3 from h3)
  simp only [List.cons.injEq, and_true] at e0 e1 e2 e3
  subst e0 e1 e2 e3 y0 y1 y2 y3
  unfold verbD at hxd
  simp only [Prod.mk.injEq, DataW.agg.injEq, List.map_cons, List.map_nil, List.cons.injEq, DataW.lit.injEq, Lit.string.injEq, Lit.int.injEq, Lit.bool.injEq, true_and, and_true] at hxd
  obtain ⟨⟨q0, q1, q2, q3⟩, _⟩ := hxd
  unfold verbC
  rw [q0, ← q1, ← q2, ← q3]
theorem verbs_of {W : World} (h : Lib.VarReads Tryz.prog W "parchment/lines.verbs" (.agg (verbsV.map verbD))) : ∃ ty fr, W.heap[(1 : Nat)]? = some (.cells verbCells.toArray ty fr) := by
  obtain ⟨g', t', cs, fuel, p, hg, hty, hvar, hd⟩ := h
  obtain rfl := Option.some.inj ((show Tryz.prog.globalNamed "parchment/lines.verbs" = some 1 by kernel_rfl).symm.trans hg)
  obtain rfl := Option.some.inj ((show (Tryz.prog.globals[1]?).map (·.type) = some 132 by kernel_rfl).symm.trans hty)
  have k4 : Tryz.prog.cellsOf 131 = 4 := by kernel_rfl
  have k28 : Tryz.prog.cellsOf 132 = 28 := by kernel_rfl
  have hl : cs.toList.length = 28 := by
    cases fuel with
    | zero => simp [DataW.trod] at hd
    | succ fuel =>
      simp only [DataW.trod, Tryz.underlying132, k28] at hd
      split at hd
      · rename_i hl
        exact hl
      · cases hd
  have key : ∀ i v, verbsV[i]? = some v → (cs.toList.drop (i * 4)).take 4 = verbC v := by
    intro i v hv
    have hi : i < 7 := (List.getElem?_eq_some_iff.1 hv).1
    obtain ⟨fuel', d, q, hdi, hx⟩ := Lib.array_elem Tryz.underlying132 hd i hi
    rw [List.getElem?_map, hv] at hdi
    simp only [Option.map_some, Option.some.injEq] at hdi
    subst hdi
    rw [k4] at hx
    exact verb_at hx
  have hcs : cs.toList = verbCells := by
    generalize cs.toList = L at hl key
    have e : ∀ (L : List Value) (n : Nat), L = L.take n ++ L.drop n := fun L n => (List.take_append_drop n L).symm
    have k0 := key 0 _ rfl
    have k1 := key 1 _ rfl
    have k2 := key 2 _ rfl
    have k3 := key 3 _ rfl
    have k4 := key 4 _ rfl
    have k5 := key 5 _ rfl
    have k6 := key 6 _ rfl
    rw [Nat.zero_mul, List.drop_zero] at k0
    rw [e L 4, k0, e (L.drop 4) 4, k1, e ((L.drop 4).drop 4) 4, List.drop_drop, k2, e ((L.drop (4 + 4)).drop 4) 4, List.drop_drop, k3, e ((L.drop (4 + 4 + 4)).drop 4) 4, List.drop_drop, k4, e ((L.drop (4 + 4 + 4 + 4)).drop 4) 4, List.drop_drop, k5, e ((L.drop (4 + 4 + 4 + 4 + 4)).drop 4) 4, List.drop_drop, k6, List.drop_drop, List.drop_eq_nil_iff.2 (by omega)]
    rfl
  unfold World.var? at hvar
  rw [hg] at hvar
  simp only [Option.bind_some] at hvar
  split at hvar
  · rename_i c ty fr hh
    injection hvar with hvar
    subst hvar
    refine ⟨ty, fr, ?_⟩
    rw [hh, ← hcs]
  · cases hvar
def kindsL : List (List UInt8) := [[], [114, 111, 111, 116], [101, 108, 101, 109, 101, 110, 116], [97, 116, 116, 114, 105, 98, 117, 116, 101], [116, 101, 120, 116], [99, 111, 109, 109, 101, 110, 116], [105, 110, 115, 116, 114, 117, 99, 116, 105, 111, 110]]
set_option maxRecDepth 100000 in
theorem env_of {W : World} (hL : laidMetH Tryz.prog Rows.linesShowsRow.laid W) (hs : W.ShapedOpen Tryz.prog) : LEnv W := by
  have h0 : laidMet Tryz.prog Rows.linesShowsRow.laid W := hL
  refine ⟨?_, ?_, ?_, ?_, ?_, mx_of_shaped hs⟩
  · exact tab_of_reads (t := 230) (e := 101) (N := 20) (zs := Lib.pow10Tab) pow_named (by kernel_rfl) Tryz.underlying230 Tryz.underlying101 (by kernel_rfl) (by kernel_rfl) (laidMet.reads h0 (.tail _ (.tail _ (.head _))))
  · exact iface_of_reads (by kernel_rfl) (by kernel_rfl) Tryz.underlying59 (laidMet.reads h0 (.tail _ (.tail _ (.tail _ (.tail _ (.tail _ (.head _)))))))
  · exact iface_of_reads (by kernel_rfl) (by kernel_rfl) Tryz.underlying59 (laidMet.reads h0 (.tail _ (.tail _ (.tail _ (.tail _ (.head _))))))
  · exact verbs_of (laidMet.reads h0 (.tail _ (.tail _ (.tail _ (.tail _ (.tail _ (.tail _ (.head _))))))))
  · exact strs_of_reads (l := kindsL) (N := 7) (by kernel_rfl) (by kernel_rfl) Tryz.underlying98 Tryz.underlying9 (by kernel_rfl) (by kernel_rfl) (laidMet.reads h0 (.tail _ (.tail _ (.tail _ (.tail _ (.tail _ (.tail _ (.tail _ (.head _)))))))))
end Go.Proofs.YtakccaldcolbmaaGreatDoor.Wln
