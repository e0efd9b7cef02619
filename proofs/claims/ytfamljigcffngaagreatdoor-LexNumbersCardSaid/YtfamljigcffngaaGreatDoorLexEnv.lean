/- From the listed package variables, and the world's shape, to what the walks of chapter 22 read of memory. -/
import Derived.Test.YtfamljigcffngaaGreatDoorLexEnv0
import Derived.Lib.LaidU8T
import Derived.Shelf.Vars
namespace Go.Proofs.YtfamljigcffngaaGreatDoor.Wch
open Go Go.RowKit Go.Lib Go.ChangeShapes Go.WideShapes

/-- an array of pairs of characters, as a row lists it -/
def spanData (t : List (Int × Int)) : DataW Unit := .agg (t.map fun p => .agg [.lit (.int .i32 p.1), .lit (.int .i32 p.2)])
theorem cells_span : Tryz.prog.cellsOf 211 = 2 := by kernel_rfl
theorem cells_i32 : Tryz.prog.cellsOf 21 = 1 := by kernel_rfl
theorem spans_of_reads {n : String} {g t N : Nat} {T : List (Int × Int)} {W : World} (hn : Tryz.prog.globalNamed n = some g) (ht : (Tryz.prog.globals[g]?).map (·.type) = some t)
    (ha : Tryz.prog.underlying t = some (.array N 211)) (hN : T.length = N) (h0 : 0 < N) (h : VarReads Tryz.prog W n (spanData T)) : Spans T g W := by
  obtain ⟨g', t', cs, fuel, p, hg, hty, hvar, hd⟩ := h
  obtain rfl := Option.some.inj (hn.symm.trans hg)
  obtain rfl := Option.some.inj (ht.symm.trans hty)
  have key : ∀ i p, T[i]? = some p → W.cell? ⟨g, i * 2, none⟩ = some (.int .i32 p.1) ∧ W.cell? ⟨g, i * 2 + 1, none⟩ = some (.int .i32 p.2) := by
    intro i p hp
    have hi : i < N := by rw [← hN]; exact (List.getElem?_eq_some_iff.1 hp).1
    obtain ⟨fuel', d, q, hdi, he⟩ := array_elem ha hd i hi
    rw [List.getElem?_map, hp] at hdi
    simp only [Option.map_some, Option.some.injEq] at hdi
    subst hdi
    rw [cells_span] at he
    have hcs := ints_of_struct (zs := [p.1, p.2]) Tryz.underlying211 (fun j f hj => by
      match j, hj with
      | 0, hj => simp at hj; subst hj; exact ⟨Tryz.underlying21, rfl, cells_i32⟩
      | 1, hj => simp at hj; subst hj; exact ⟨Tryz.underlying21, rfl, cells_i32⟩
      | j + 2, hj => simp at hj) (by rw [cells_span]; rfl) he
    have e0 := congrArg (·[0]?) hcs
    have e1 := congrArg (·[1]?) hcs
    simp only [List.getElem?_take, List.getElem?_drop] at e0 e1
    constructor
    · rw [World.var?_cell hg hvar (i * 2), ← Array.getElem?_toList]
      simpa [Nat.mul_comm] using e0
    · rw [World.var?_cell hg hvar (i * 2 + 1), ← Array.getElem?_toList]
      simpa [Nat.mul_comm] using e1
  refine ⟨?_, key⟩
  obtain ⟨p, hp⟩ : ∃ p, T[0]? = some p := ⟨_, List.getElem?_eq_getElem (by omega)⟩
  exact cell_lt (key 0 p hp).1
end Go.Proofs.YtfamljigcffngaaGreatDoor.Wch
namespace Go.Proofs.YtfamljigcffngaaGreatDoor.Wlx
open Go Go.RowKit Go.Lib Go.ChangeShapes Go.WideShapes

theorem tab_of_reads {n : String} {g t e N : Nat} {k : IntKind} {zs : List Int} {W : World} (hn : Tryz.prog.globalNamed n = some g) (ht : (Tryz.prog.globals[g]?).map (·.type) = some t)
    (ha : Tryz.prog.underlying t = some (.array N e)) (he : Tryz.prog.underlying e = some (.int k)) (hce : Tryz.prog.cellsOf e = 1) (hct : Tryz.prog.cellsOf t = N) (h : VarReads Tryz.prog W n (tabData k zs)) : Lib.TabIs Tryz.prog W n k zs := by
  obtain ⟨g', t', cs, fuel, p, hg, hty, hvar, hd⟩ := h
  obtain rfl := Option.some.inj (hn.symm.trans hg)
  obtain rfl := Option.some.inj (ht.symm.trans hty)
  have hcs := cells_of_tab ha he hce hct hd
  unfold Lib.TabIs
  rw [hvar, ← hcs]
theorem iface_of_reads {n nm : String} {g t : Nat} {d : DataW Unit} {W : World} {ms : Array (String × TypeId)} (hn : Tryz.prog.globalNamed n = some g) (ht : (Tryz.prog.globals[g]?).map (·.type) = some t)
    (hi : Tryz.prog.underlying t = some (.interface ms)) (h : VarReads Tryz.prog W n (.iface nm d)) : ∃ te pe, W.cell? ⟨g, 0, none⟩ = some (.iface te pe) := by
  obtain ⟨g', t', cs, fuel, p, hg, hty, hvar, hd⟩ := h
  obtain rfl := Option.some.inj (hn.symm.trans hg)
  obtain rfl := Option.some.inj (ht.symm.trans hty)
  cases fuel with
  | zero => simp [DataW.trod] at hd
  | succ fuel =>
    simp only [DataW.trod, hi] at hd
    have hcell := World.var?_cell hg hvar 0
    rw [← Array.getElem?_toList] at hcell
    generalize cs.toList = l at hd hcell
    rcases l with _ | ⟨x, _ | ⟨y, l⟩⟩
    · simp at hd
    · cases x with
      | iface u v => exact ⟨u, v, hcell⟩
      | _ => simp at hd
    · simp at hd
/-- an array of texts, as a row lists it -/
def strData (l : List (List UInt8)) : DataW Unit := .agg (l.map fun s => .lit (.string s))
theorem cells_of_strs {H : Type} {enc : TypeId × Value → H} {P : Program} {w : World} {base : Nat} {sp : Nat → Bool} {held : Bool} {fuel : Nat} {t e : TypeId} {n : Nat} {cs : List Value} {l : List (List UInt8)} {p : List MemPlace}
    (ht : P.underlying t = some (.array n e)) (he : P.underlying e = some .string) (hce : P.cellsOf e = 1) (hct : P.cellsOf t = n)
    (h : DataW.trod enc P w base sp held fuel t cs = some (.agg (l.map fun s => .lit (.string s)), p)) : cs = l.map fun x => Value.string ⟨x.toArray⟩ := by
  cases fuel with
  | zero => simp [DataW.trod] at h
  | succ fuel =>
    simp only [DataW.trod, ht, hce, hct, Nat.mul_one] at h
    split at h
    · rename_i hl
      obtain ⟨xs, hm, hx⟩ := Option.map_eq_some_iff.1 h
      have hxs : xs.map (·.1) = l.map fun z => (DataW.lit (.string z) : DataW H) := by
        have := congrArg Prod.fst hx
        simpa using this
      have hxl : xs.length = n := by simpa using mapM_length hm
      have hzl : l.length = n := by
        have := congrArg List.length hxs
        simp at this
        omega
      apply List.ext_getElem?
      intro i
      by_cases hi : i < n
      · obtain ⟨b, hb, hf⟩ := mapM_at hm i i (by simp [hi])
        obtain ⟨z, hc, rfl, _⟩ := DataW.trod_string he hf
        have h1 : cs[i]? = some (.string z) := by
          have := congrArg (·[0]?) hc
          simpa [List.getElem?_take, List.getElem?_drop] using this
        have h2 : (xs.map (·.1))[i]? = some (DataW.lit (.string z.data.toList) : DataW H) := by simp [hb]
        rw [hxs] at h2
        simp only [List.getElem?_map, Option.map_eq_some_iff, DataW.lit.injEq, Lit.string.injEq] at h2
        obtain ⟨z', hz', h2⟩ := h2
        subst h2
        simp [h1, hz']
      · rw [List.getElem?_eq_none (by omega), List.getElem?_eq_none (by simp; omega)]
    · cases h
theorem strs_of_reads {n : String} {g t e N : Nat} {l : List (List UInt8)} {W : World} (hn : Tryz.prog.globalNamed n = some g) (ht : (Tryz.prog.globals[g]?).map (·.type) = some t)
    (ha : Tryz.prog.underlying t = some (.array N e)) (he : Tryz.prog.underlying e = some .string) (hce : Tryz.prog.cellsOf e = 1) (hct : Tryz.prog.cellsOf t = N) (h : VarReads Tryz.prog W n (strData l)) :
    ∃ ty fr, W.heap[g]? = some (.cells (l.map fun x => Value.string ⟨x.toArray⟩).toArray ty fr) := by
  obtain ⟨g', t', cs, fuel, p, hg, hty, hvar, hd⟩ := h
  obtain rfl := Option.some.inj (hn.symm.trans hg)
  obtain rfl := Option.some.inj (ht.symm.trans hty)
  have hcs := cells_of_strs ha he hce hct hd
  unfold World.var? at hvar
  rw [hg] at hvar
  simp only [Option.bind_some] at hvar
  split at hvar
  · rename_i c ty fr hh
    injection hvar with hvar
    subst hvar
    refine ⟨ty, fr, ?_⟩
    rw [hh, ← hcs]
  · cases hvar
theorem mx_of_shaped {W : World} (h : W.ShapedOpen Tryz.prog) : ∃ m : Int, W.cell? ⟨5, 0, none⟩ = some (.int .i64 m) :=
  cell_of_shapedOpen_int (t := 3) (zero := #[.int .i64 0]) h (by decide +kernel) (by kernel_rfl) rfl (by kernel_rfl) (by kernel_rfl) Tryz.underlying3
set_option maxRecDepth 100000 in
theorem env_of {W : World} (hL : laidMetH Tryz.prog Rows.lexApartRow.laid W) (hs : W.ShapedOpen Tryz.prog) : Env W := by
  have h0 : laidMet Tryz.prog Rows.lexApartRow.laid W := hL
  refine ⟨⟨⟨?_, ?_⟩, ?_⟩, ?_, ?_, ?_, ?_, mx_of_shaped hs⟩
  · exact Wch.spans_of_reads (N := 15) (by kernel_rfl) (by kernel_rfl) Tryz.underlying213 rfl (by omega) (laidMet.reads h0 (.tail _ (.tail _ (.tail _ (.tail _ (.tail _ (.tail _ (.head _))))))))
  · exact Wch.spans_of_reads (N := 5) (by kernel_rfl) (by kernel_rfl) Tryz.underlying212 rfl (by omega) (laidMet.reads h0 (.tail _ (.tail _ (.tail _ (.tail _ (.tail _ (.tail _ (.tail _ (.head _)))))))))
  · exact utf8Tabs_of_readsT (U8Types.of196 Tryz.laysValid) ⟨by kernel_rfl, by kernel_rfl, by kernel_rfl, by kernel_rfl, by kernel_rfl, by kernel_rfl, by kernel_rfl⟩
      (laidMet.reads h0 (.tail _ (.tail _ (.tail _ (.tail _ (.tail _ (.tail _ (.tail _ (.tail _ (.tail _ (.head _))))))))))) (laidMet.reads h0 (.tail _ (.tail _ (.tail _ (.head _)))))
  · exact tab_of_reads (t := 234) (e := 119) (N := 20) (zs := Lib.pow10Tab) pow_named (by kernel_rfl) Tryz.underlying234 Tryz.underlying119 (by kernel_rfl) (by kernel_rfl) (laidMet.reads h0 (.tail _ (.tail _ (.head _))))
  · exact iface_of_reads (by kernel_rfl) (by kernel_rfl) Tryz.underlying77 (laidMet.reads h0 (.tail _ (.tail _ (.tail _ (.tail _ (.tail _ (.head _)))))))
  · exact iface_of_reads (by kernel_rfl) (by kernel_rfl) Tryz.underlying77 (laidMet.reads h0 (.tail _ (.tail _ (.tail _ (.tail _ (.head _))))))
  · exact strs_of_reads (l := Plx.signsL) (N := 24) (by kernel_rfl) (by kernel_rfl) Tryz.underlying84 Tryz.underlying9 (by kernel_rfl) (by kernel_rfl) (laidMet.reads h0 (.tail _ (.tail _ (.tail _ (.tail _ (.tail _ (.tail _ (.tail _ (.tail _ (.head _))))))))))
end Go.Proofs.YtfamljigcffngaaGreatDoor.Wlx
