/- From the listed package variables, and the world's shape, to what the walks of chapter 07 read of memory. The laying of the case table at this program's numbers. The listed variables, the last two the other way round. -/
import Derived.Test.YtmdbjoebcolcfaaDoorParseK
import Derived.Test.YtmdbjoebcolcfaaDoorRows
import Derived.Lib.LaidU8T
import Derived.Shelf.Vars
import Derived.SizedLaws
import Derived.Lib.LaidCaseMet
import Derived.Test.YtmdbjoebcolcfaaDoorProg
namespace Go.Proofs.YtmdbjoebcolcfaaDoor.Wch
open Go Go.RowKit Go.Lib Go.ChangeShapes Go.WideShapes

/-- an array of pairs of characters, as a row lists it -/
def spanData (t : List (Int × Int)) : DataW Unit := .agg (t.map fun p => .agg [.lit (.int .i32 p.1), .lit (.int .i32 p.2)])
theorem cells_span : Tryd.prog.cellsOf 89 = 2 := by kernel_rfl
theorem cells_i32 : Tryd.prog.cellsOf 21 = 1 := by kernel_rfl
theorem spans_of_reads {n : String} {g t N : Nat} {T : List (Int × Int)} {W : World} (hn : Tryd.prog.globalNamed n = some g) (ht : (Tryd.prog.globals[g]?).map (·.type) = some t)
    (ha : Tryd.prog.underlying t = some (.array N 89)) (hN : T.length = N) (h0 : 0 < N) (h : VarReads Tryd.prog W n (spanData T)) : Spans T g W := by
  obtain ⟨g', t', cs, fuel, p, hg, hty, hvar, hd⟩ := h
  obtain rfl := Option.some.inj (hn.symm.trans hg)
  obtain rfl := Option.some.inj (ht.symm.trans hty)
  have key : ∀ i p, T[i]? = some p → W.cell? ⟨g, i * 2, none⟩ = some (.int .i32 p.1) ∧ W.cell? ⟨g, i * 2 + 1, none⟩ = some (.int .i32 p.2) := by
    intro i p hp
    have hi : i < N := by rw [← hN]; exact (List.getElem?_eq_some_iff.1 hp).1
    obtain ⟨fuel', d, q, hdi, he⟩ := array_elem ha hd i hi
    rw [List.getElem?_map, hp] at hdi
    simp only [Option.map_some, Option.some.injEq] at hdi
    subst hdi
    rw [cells_span] at he
    have hcs := ints_of_struct (zs := [p.1, p.2]) Tryd.underlying89 (fun j f hj => by
      match j, hj with
      | 0, hj => simp at hj; subst hj; exact ⟨Tryd.underlying21, rfl, cells_i32⟩
      | 1, hj => simp at hj; subst hj; exact ⟨Tryd.underlying21, rfl, cells_i32⟩
      | j + 2, hj => simp at hj) (by rw [cells_span]; rfl) he
    have e0 := congrArg (·[0]?) hcs
    have e1 := congrArg (·[1]?) hcs
    simp only [List.getElem?_take, List.getElem?_drop] at e0 e1
    constructor
    · rw [World.var?_cell hg hvar (i * 2), ← Array.getElem?_toList]
      simpa [Nat.mul_comm] using e0
    · rw [World.var?_cell hg hvar (i * 2 + 1), ← Array.getElem?_toList]
      simpa [Nat.mul_comm] using e1
  refine ⟨?_, key⟩
  obtain ⟨p, hp⟩ : ∃ p, T[0]? = some p := ⟨_, List.getElem?_eq_getElem (by omega)⟩
  exact cell_lt (key 0 p hp).1
end Go.Proofs.YtmdbjoebcolcfaaDoor.Wch
namespace Go.Proofs.YtmdbjoebcolcfaaDoor.Wtr
open Go Go.RowKit Go.ChangeShapes Go.WideShapes Go.Deep Go.Proofs.YtmdbjoebcolcfaaDoor.Kb

theorem int_of_reads {n : String} {g t e N : Nat} {k : IntKind} {zs : List Int} {W : World} (hn : Tryd.prog.globalNamed n = some g) (ht : (Tryd.prog.globals[g]?).map (·.type) = some t)
    (ha : Tryd.prog.underlying t = some (.array N e)) (he : Tryd.prog.underlying e = some (.int k)) (hce : Tryd.prog.cellsOf e = 1) (h : Lib.VarReads Tryd.prog W n (.agg (zs.map fun z => .lit (.int k z)))) (hN : zs.length = N) (i : Nat) (z : Int) (hz : zs[i]? = some z) : W.cell? ⟨g, i, none⟩ = some (.int k z) := by
  obtain ⟨g', t', cs, fuel, p, hg, hty, hvar, hd⟩ := h
  obtain rfl := Option.some.inj (hn.symm.trans hg)
  obtain rfl := Option.some.inj (ht.symm.trans hty)
  have hi : i < N := by rw [← hN]; exact (List.getElem?_eq_some_iff.1 hz).1
  obtain ⟨fuel', d, q, hdi, hx⟩ := Lib.array_elem ha hd i hi
  rw [List.getElem?_map, hz] at hdi
  simp only [Option.map_some, Option.some.injEq] at hdi
  subst hdi
  rw [hce, Nat.mul_one] at hx
  obtain ⟨z', e0, e1, _⟩ := DataW.trod_int he hx
  simp only [Prod.mk.injEq, DataW.lit.injEq, Lit.int.injEq, true_and] at e1
  obtain ⟨rfl, _⟩ := e1
  rw [World.var?_cell hg hvar i, ← Array.getElem?_toList]
  have := congrArg (·[0]?) e0
  simpa [List.getElem?_take, List.getElem?_drop] using this
def foldTab : List Int := [0, 1, 2, 3, 4, 5, 6, 7, 8, 9, 10, 11, 12, 13, 14, 15, 16, 17, 18, 19, 20, 21, 22, 23, 24, 25, 26, 27, 28, 29, 30, 31, 32, 33, 34, 35, 36, 37, 38, 39, 40, 41, 42, 43, 44, 45, 46, 47, 48, 49, 50, 51, 52, 53, 54, 55, 56, 57, 58, 59, 60, 61, 62, 63, 64, 97, 98, 99, 100, 101, 102, 103, 104, 105, 106, 107, 108, 109, 110, 111, 112, 113, 114, 115, 116, 117, 118, 119, 120, 121, 122, 91, 92, 93, 94, 95, 96, 65, 66, 67, 68, 69, 70, 71, 72, 73, 74, 8490, 76, 77, 78, 79, 80, 81, 82, 383, 84, 85, 86, 87, 88, 89, 90, 123, 124, 125, 126, 127]
theorem foldTab_of {W : World} (h : Lib.VarReads Tryd.prog W "unicode.asciiFold" (.agg (foldTab.map fun z => .lit (.int .u16 z)))) : FoldTab W := by
  have k := int_of_reads (t := 93) (e := 92) (N := 128) (g := 4) (zs := foldTab) (by kernel_rfl) (by kernel_rfl) Tryd.underlying93 Tryd.underlying92 (by kernel_rfl) h rfl
  exact ⟨k 120 88 rfl, k 88 120 rfl, k 109 77 rfl, k 77 109 rfl, k 108 76 rfl, k 76 108 rfl⟩
theorem mx_of_shaped {W : World} (h : W.ShapedOpen Tryd.prog) : ∃ m : Int, W.cell? ⟨7, 0, none⟩ = some (.int .i64 m) :=
  cell_of_shapedOpen_int (t := 3) (zero := #[.int .i64 0]) h (by decide +kernel) (by kernel_rfl) rfl (by kernel_rfl) (by kernel_rfl) Tryd.underlying3
set_option maxRecDepth 100000 in
theorem env_of {W : World} (hL : laidMetH Tryd.prog Rows.parseCutRow.laid W) (hs : W.ShapedOpen Tryd.prog) : Wps.Ev W := by
  have h0 : laidMet Tryd.prog Rows.parseCutRow.laid W := hL
  refine ⟨⟨⟨?_, ?_⟩, ?_⟩, mx_of_shaped hs, ?_⟩
  · exact Wch.spans_of_reads (N := 15) (by kernel_rfl) (by kernel_rfl) Tryd.underlying90 rfl (by omega) (Lib.laidMet.reads h0 (.tail _ (.tail _ (.tail _ (.head _)))))
  · exact Wch.spans_of_reads (N := 5) (by kernel_rfl) (by kernel_rfl) Tryd.underlying91 rfl (by omega) (Lib.laidMet.reads h0 (.tail _ (.tail _ (.tail _ (.tail _ (.head _))))))
  · exact utf8Tabs_of_readsT ({ Tryd.lays197 with } : U8Types _ _) ⟨by kernel_rfl, by kernel_rfl, by kernel_rfl, by kernel_rfl, by kernel_rfl, by kernel_rfl, by kernel_rfl⟩
      (Lib.laidMet.reads h0 (.tail _ (.tail _ (.tail _ (.tail _ (.tail _ (.tail _ (.head _)))))))) (Lib.laidMet.reads h0 (.head _))
  · exact foldTab_of (Lib.laidMet.reads h0 (.tail _ (.head _)))
end Go.Proofs.YtmdbjoebcolcfaaDoor.Wtr
namespace Go.Proofs
open Go.Shelf
def Tryd.lays274g_ren : Go.Shelf.Ren := ⟨fun | 274 => 72 | n => n, fun | 21 => 21 | 162 => 99 | 160 => 97 | 3 => 3 | 4 => 4 | 46 => 79 | 0 => 0 | 208 => 110 | 51 => 104 | 206 => 108 | n => n, fun | 13 => 6 | n => n⟩
theorem Tryd.lays274g : Go.Proofs.Lays.n274 Tryd.prog Tryd.lays274g_ren := {
  mixed := by kernel_rfl
  f274 := Tryd.func72.trans (congrArg some (by kernel_rfl))
  t0 := Tryd.underlying0
  a0 := Tryd.isAgg0
  z0 := Tryd.sizeOf0
  v0 := Tryd.zeroValue0
  t3 := Tryd.underlying3
  a3 := Tryd.isAgg3
  z3 := Tryd.sizeOf3
  v3 := Tryd.zeroValue3
  t4 := Tryd.underlying4
  a4 := Tryd.isAgg4
  z4 := Tryd.sizeOf4
  v4 := Tryd.zeroValue4
  t21 := Tryd.underlying21
  a21 := Tryd.isAgg21
  z21 := Tryd.sizeOf21
  v21 := Tryd.zeroValue21
  t46 := Tryd.underlying79
  a46 := Tryd.isAgg79
  z46 := Tryd.sizeOf79
  v46 := Tryd.zeroValue79
  t51 := Tryd.underlying104
  a51 := Tryd.isAgg104
  z51 := Tryd.sizeOf104
  v51 := Tryd.zeroValue104
  t160 := Tryd.underlying97
  a160 := Tryd.isAgg97
  z160 := Tryd.sizeOf97
  v160 := Tryd.zeroValue97
  t162 := Tryd.underlying99
  a162 := Tryd.isAgg99
  z162 := Tryd.sizeOf99
  v162 := Tryd.zeroValue99
  t208 := Tryd.underlying110
  a208 := Tryd.isAgg110
  z208 := Tryd.sizeOf110
  v208 := Tryd.zeroValue110 }
end Go.Proofs
namespace Go.Proofs.YtmdbjoebcolcfaaDoor.Wtr
open Go

theorem laidVars_split {P : Program} {w : World} : ∀ {l l' : List (String × DataW Unit)} {ps : List MemPlace}, DataW.LaidVars P w (l ++ l') ps → ∃ p q, ps = p ++ q ∧ DataW.LaidVars P w l p ∧ DataW.LaidVars P w l' q
  | [], l', ps, h => ⟨[], ps, rfl, rfl, h⟩
  | (n, d) :: r, l', ps, h => by
    obtain ⟨g, t, cs, fuel, p, q, h1, h2, h3, h4, h5, rfl⟩ := h
    obtain ⟨p1, q1, rfl, h6, h7⟩ := laidVars_split h5
    exact ⟨_, q1, by rw [List.append_assoc]; exact (List.append_assoc _ _ _).symm ▸ (by simp [List.append_assoc]), ⟨g, t, cs, fuel, p, p1, h1, h2, h3, h4, h6, rfl⟩, h7⟩
theorem laidMet_last2 {P : Program} {w : World} {l : List (String × DataW Unit)} {x y : String × DataW Unit} (h : laidMet P (l ++ [x, y]) w) : laidMet P (l ++ [y, x]) w := by
  obtain ⟨ps, h1, h2, h3⟩ := h
  obtain ⟨p, q, rfl, hl, hxy⟩ := laidVars_split h1
  obtain ⟨a, b, rfl, hx, hy⟩ := laidVars_split (l := [x]) (l' := [y]) hxy
  have hperm : (p ++ (b ++ a)).Perm (p ++ (a ++ b)) := List.Perm.append_left p List.perm_append_comm
  exact ⟨p ++ (b ++ a), LaidVars_append hl (LaidVars_append (l := [y]) hy hx), hperm.nodup_iff.2 h2, fun b' off hb => h3 b' off (hperm.mem_iff.1 hb)⟩
end Go.Proofs.YtmdbjoebcolcfaaDoor.Wtr
