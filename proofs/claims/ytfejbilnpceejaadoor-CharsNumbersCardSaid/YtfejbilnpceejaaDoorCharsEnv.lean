/- From the listed package variables to what the walks read of memory. -/
import Derived.Test.YtfejbilnpceejaaDoorCharsWalksC
import Derived.Test.YtfejbilnpceejaaDoorRows
import Derived.Lib.LaidU8T
namespace Go.Proofs.YtfejbilnpceejaaDoor.Wch
open Go Go.RowKit Go.Lib Go.ChangeShapes Go.WideShapes

/-- an array of pairs of characters, as a row lists it -/
def spanData (t : List (Int × Int)) : DataW Unit := .agg (t.map fun p => .agg [.lit (.int .i32 p.1), .lit (.int .i32 p.2)])
theorem cells_span : Tryd.prog.cellsOf 34 = 2 := by kernel_rfl
theorem cells_i32 : Tryd.prog.cellsOf 21 = 1 := by kernel_rfl
theorem spans_of_reads {n : String} {g t N : Nat} {T : List (Int × Int)} {W : World} (hn : Tryd.prog.globalNamed n = some g) (ht : (Tryd.prog.globals[g]?).map (·.type) = some t)
    (ha : Tryd.prog.underlying t = some (.array N 34)) (hN : T.length = N) (h0 : 0 < N) (h : VarReads Tryd.prog W n (spanData T)) : Spans T g W := by
  obtain ⟨g', t', cs, fuel, p, hg, hty, hvar, hd⟩ := h
  obtain rfl := Option.some.inj (hn.symm.trans hg)
  obtain rfl := Option.some.inj (ht.symm.trans hty)
  have key : ∀ i p, T[i]? = some p → W.cell? ⟨g, i * 2, none⟩ = some (.int .i32 p.1) ∧ W.cell? ⟨g, i * 2 + 1, none⟩ = some (.int .i32 p.2) := by
    intro i p hp
    have hi : i < N := by rw [← hN]; exact (List.getElem?_eq_some_iff.1 hp).1
    obtain ⟨fuel', d, q, hdi, he⟩ := array_elem ha hd i hi
    rw [List.getElem?_map, hp] at hdi
    simp only [Option.map_some, Option.some.injEq] at hdi
    subst hdi
    rw [cells_span] at he
    have hcs := ints_of_struct (zs := [p.1, p.2]) Tryd.underlying34 (fun j f hj => by
      match j, hj with
      | 0, hj => simp at hj; subst hj; exact ⟨Tryd.underlying21, rfl, cells_i32⟩
      | 1, hj => simp at hj; subst hj; exact ⟨Tryd.underlying21, rfl, cells_i32⟩
      | j + 2, hj => simp at hj) (by rw [cells_span]; rfl) he
    have e0 := congrArg (·[0]?) hcs
    have e1 := congrArg (·[1]?) hcs
    simp only [List.getElem?_take, List.getElem?_drop] at e0 e1
    constructor
    · rw [World.var?_cell hg hvar (i * 2), ← Array.getElem?_toList]
      simpa [Nat.mul_comm] using e0
    · rw [World.var?_cell hg hvar (i * 2 + 1), ← Array.getElem?_toList]
      simpa [Nat.mul_comm] using e1
  refine ⟨?_, key⟩
  obtain ⟨p, hp⟩ : ∃ p, T[0]? = some p := ⟨_, List.getElem?_eq_getElem (by omega)⟩
  exact cell_lt (key 0 p hp).1
set_option maxRecDepth 100000 in
theorem env_of {W : World} (hL : laidMetH Tryd.prog Rows.charsRunesRow.laid W) : Env W :=
  ⟨⟨spans_of_reads (N := 15) (by kernel_rfl) (by kernel_rfl) Tryd.underlying35 rfl (by omega) (laidMet.reads hL (.tail _ (.head _))),
    spans_of_reads (N := 5) (by kernel_rfl) (by kernel_rfl) Tryd.underlying36 rfl (by omega) (laidMet.reads hL (.tail _ (.tail _ (.head _))))⟩,
   utf8Tabs_of_readsT (U8Types.of196 Tryd.laysValid) ⟨by kernel_rfl, by kernel_rfl, by kernel_rfl, by kernel_rfl, by kernel_rfl, by kernel_rfl, by kernel_rfl⟩
     (laidMet.reads hL (.tail _ (.tail _ (.tail _ (.head _))))) (laidMet.reads hL (.head _))⟩
end Go.Proofs.YtfejbilnpceejaaDoor.Wch
