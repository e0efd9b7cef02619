/- From the listed package variables, and the world's shape, to what the walks of chapter 07 read of memory. The laying of the case table at this program's numbers. The listed variables, the last two the other way round. -/
import Derived.Test.YtemfmidhekdekaaGreatDoorPsC
import Derived.Test.YtemfmidhekdekaaGreatDoorTreeVa
import Derived.Test.YtemfmidhekdekaaGreatDoorRows
import Derived.Lib.LaidU8T
import Derived.Shelf.Vars
import Derived.SizedLaws
import Derived.Lib.LaidCaseMet
import Derived.Test.YtemfmidhekdekaaGreatDoorProg
namespace Go.Proofs.YtemfmidhekdekaaGreatDoor.Wch
open Go Go.RowKit Go.Lib Go.ChangeShapes Go.WideShapes

/-- an array of pairs of characters, as a row lists it -/
def spanData (t : List (Int × Int)) : DataW Unit := .agg (t.map fun p => .agg [.lit (.int .i32 p.1), .lit (.int .i32 p.2)])
theorem cells_span : Tryz.prog.cellsOf 128 = 2 := by kernel_rfl
theorem cells_i32 : Tryz.prog.cellsOf 21 = 1 := by kernel_rfl
theorem spans_of_reads {n : String} {g t N : Nat} {T : List (Int × Int)} {W : World} (hn : Tryz.prog.globalNamed n = some g) (ht : (Tryz.prog.globals[g]?).map (·.type) = some t)
    (ha : Tryz.prog.underlying t = some (.array N 128)) (hN : T.length = N) (h0 : 0 < N) (h : VarReads Tryz.prog W n (spanData T)) : Spans T g W := by
  obtain ⟨g', t', cs, fuel, p, hg, hty, hvar, hd⟩ := h
  obtain rfl := Option.some.inj (hn.symm.trans hg)
  obtain rfl := Option.some.inj (ht.symm.trans hty)
  have key : ∀ i p, T[i]? = some p → W.cell? ⟨g, i * 2, none⟩ = some (.int .i32 p.1) ∧ W.cell? ⟨g, i * 2 + 1, none⟩ = some (.int .i32 p.2) := by
    intro i p hp
    have hi : i < N := by rw [← hN]; exact (List.getElem?_eq_some_iff.1 hp).1
    obtain ⟨fuel', d, q, hdi, he⟩ := array_elem ha hd i hi
    rw [List.getElem?_map, hp] at hdi
    simp only [Option.map_some, Option.some.injEq] at hdi
    subst hdi
    rw [cells_span] at he
    have hcs := ints_of_struct (zs := [p.1, p.2]) Tryz.underlying128 (fun j f hj => by
      match j, hj with
      | 0, hj => simp at hj; subst hj; exact ⟨Tryz.underlying21, rfl, cells_i32⟩
      | 1, hj => simp at hj; subst hj; exact ⟨Tryz.underlying21, rfl, cells_i32⟩
      | j + 2, hj => simp at hj) (by rw [cells_span]; rfl) he
    have e0 := congrArg (·[0]?) hcs
    have e1 := congrArg (·[1]?) hcs
    simp only [List.getElem?_take, List.getElem?_drop] at e0 e1
    constructor
    · rw [World.var?_cell hg hvar (i * 2), ← Array.getElem?_toList]
      simpa [Nat.mul_comm] using e0
    · rw [World.var?_cell hg hvar (i * 2 + 1), ← Array.getElem?_toList]
      simpa [Nat.mul_comm] using e1
  refine ⟨?_, key⟩
  obtain ⟨p, hp⟩ : ∃ p, T[0]? = some p := ⟨_, List.getElem?_eq_getElem (by omega)⟩
  exact cell_lt (key 0 p hp).1
end Go.Proofs.YtemfmidhekdekaaGreatDoor.Wch
namespace Go.Proofs.YtemfmidhekdekaaGreatDoor.Wtr
open Go Go.RowKit Go.ChangeShapes Go.WideShapes Go.Deep Go.Proofs.YtemfmidhekdekaaGreatDoor.Kb

theorem int_of_reads {n : String} {g t e N : Nat} {k : IntKind} {zs : List Int} {W : World} (hn : Tryz.prog.globalNamed n = some g) (ht : (Tryz.prog.globals[g]?).map (·.type) = some t)
    (ha : Tryz.prog.underlying t = some (.array N e)) (he : Tryz.prog.underlying e = some (.int k)) (hce : Tryz.prog.cellsOf e = 1) (h : Lib.VarReads Tryz.prog W n (.agg (zs.map fun z => .lit (.int k z)))) (hN : zs.length = N) (i : Nat) (z : Int) (hz : zs[i]? = some z) : W.cell? ⟨g, i, none⟩ = some (.int k z) := by
  obtain ⟨g', t', cs, fuel, p, hg, hty, hvar, hd⟩ := h
  obtain rfl := Option.some.inj (hn.symm.trans hg)
  obtain rfl := Option.some.inj (ht.symm.trans hty)
  have hi : i < N := by rw [← hN]; exact (List.getElem?_eq_some_iff.1 hz).1
  obtain ⟨fuel', d, q, hdi, hx⟩ := Lib.array_elem ha hd i hi
  rw [List.getElem?_map, hz] at hdi
  simp only [Option.map_some, Option.some.injEq] at hdi
  subst hdi
  rw [hce, Nat.mul_one] at hx
  obtain ⟨z', e0, e1, _⟩ := DataW.trod_int he hx
  simp only [Prod.mk.injEq, DataW.lit.injEq, Lit.int.injEq, true_and] at e1
  obtain ⟨rfl, _⟩ := e1
  rw [World.var?_cell hg hvar i, ← Array.getElem?_toList]
  have := congrArg (·[0]?) e0
  simpa [List.getElem?_take, List.getElem?_drop] using this
def foldTab : List Int := [0, 1, 2, 3, 4, 5, 6, 7, 8, 9, 10, 11, 12, 13, 14, 15, 16, 17, 18, 19, 20, 21, 22, 23, 24, 25, 26, 27, 28, 29, 30, 31, 32, 33, 34, 35, 36, 37, 38, 39, 40, 41, 42, 43, 44, 45, 46, 47, 48, 49, 50, 51, 52, 53, 54, 55, 56, 57, 58, 59, 60, 61, 62, 63, 64, 97, 98, 99, 100, 101, 102, 103, 104, 105, 106, 107, 108, 109, 110, 111, 112, 113, 114, 115, 116, 117, 118, 119, 120, 121, 122, 91, 92, 93, 94, 95, 96, 65, 66, 67, 68, 69, 70, 71, 72, 73, 74, 8490, 76, 77, 78, 79, 80, 81, 82, 383, 84, 85, 86, 87, 88, 89, 90, 123, 124, 125, 126, 127]
theorem foldTab_of {W : World} (h : Lib.VarReads Tryz.prog W "unicode.asciiFold" (.agg (foldTab.map fun z => .lit (.int .u16 z)))) : FoldTab W := by
  have k := int_of_reads (t := 133) (e := 132) (N := 128) (g := 6) (zs := foldTab) (by kernel_rfl) (by kernel_rfl) Tryz.underlying133 Tryz.underlying132 (by kernel_rfl) h rfl
  exact ⟨k 120 88 rfl, k 88 120 rfl, k 109 77 rfl, k 77 109 rfl, k 108 76 rfl, k 76 108 rfl⟩
/-- the rules, kind by kind -/
def ruleRows : List (List Bool) := [[false, false, false, false, false, false], [false, false, false, false, false, false], [true, false, false, true, true, true], [true, true, false, false, false, true], [false, true, true, true, false, true], [false, true, false, true, true, true], [true, true, false, true, true, true]]
theorem cells_rule : Tryz.prog.cellsOf 99 = 6 := by kernel_rfl
theorem one_rule : oneCellFields Tryz.prog (Tryz.prog.fieldsOf 99) = true := by kernel_rfl
theorem bool_rules : ((List.range 6).all fun j => ((Tryz.prog.fieldsOf 99)[j]?).map (·.type) == some 4) = true := by kernel_rfl
theorem bool_rule : ∀ j, j < 6 → ((Tryz.prog.fieldsOf 99)[j]?).map (·.type) = some 4 := fun j hj => by
  simpa using List.all_eq_true.1 bool_rules j (List.mem_range.2 hj)
theorem rules_of {W : World} (h : Lib.VarReads Tryz.prog W "parchment/tree.rules" (.agg (ruleRows.map fun r => .agg (r.map fun b => .lit (.bool b))))) : Rules W := by
  obtain ⟨g', t', cs, fuel, p, hg, hty, hvar, hd⟩ := h
  obtain rfl := Option.some.inj ((show Tryz.prog.globalNamed "parchment/tree.rules" = some 0 by kernel_rfl).symm.trans hg)
  obtain rfl := Option.some.inj ((show (Tryz.prog.globals[0]?).map (·.type) = some 100 by kernel_rfl).symm.trans hty)
  have key : ∀ i r, ruleRows[i]? = some r → ∀ j b, r[j]? = some b → j < 6 → W.cell? ⟨0, i * 6 + j, none⟩ = some (.bool b) := by
    intro i r hr j b hb hj6
    have hi : i < 7 := (List.getElem?_eq_some_iff.1 hr).1
    obtain ⟨fuel', d, q, hdi, hx⟩ := Lib.array_elem Tryz.underlying100 hd i hi
    rw [List.getElem?_map, hr] at hdi
    simp only [Option.map_some, Option.some.injEq] at hdi
    subst hdi
    rw [cells_rule] at hx
    have hS : Tryz.prog.underlying 99 = some (.struct (Tryz.prog.fieldsOf 99)) := by kernel_rfl
    obtain ⟨xs, n, _, hxd, _, hlen, hf⟩ := DataW.trod_struct hS hx
    obtain ⟨f, hf1⟩ : ∃ f, (Tryz.prog.fieldsOf 99)[j]? = some f := by
      have := bool_rule j hj6
      cases e : (Tryz.prog.fieldsOf 99)[j]? with
      | none => rw [e] at this; cases this
      | some f => exact ⟨f, rfl⟩
    have hft : f.type = 4 := by
      have := bool_rule j hj6
      rw [hf1] at this
      exact Option.some.inj this
    obtain ⟨ho, hk⟩ := hone_of one_rule j f hf1
    have h1 := hf j f hf1
    rw [ho, hk] at h1
    have hjx : j < xs.length := by rw [hlen]; exact (Array.getElem?_eq_some_iff.1 hf1).1
    have hys : xs[j]? = some (xs[j]'hjx) := List.getElem?_eq_getElem hjx
    rw [hys, hft] at h1
    obtain ⟨b', e0, e1⟩ := DataW.trod_bool Tryz.underlying4 h1
    have hxm : (xs.map (·.1))[j]? = some (.lit (.bool b')) := by rw [List.getElem?_map, hys, e1]; rfl
    simp only [Prod.mk.injEq, DataW.agg.injEq] at hxd
    rw [← hxd.1, List.getElem?_map, hb] at hxm
    simp only [Option.map_some, Option.some.injEq, DataW.lit.injEq, Lit.bool.injEq] at hxm
    subst hxm
    rw [World.var?_cell hg hvar (i * 6 + j), ← Array.getElem?_toList]
    have := congrArg (·[0]?) e0
    simp only [List.getElem?_take, List.getElem?_drop] at this
    simpa [hj6] using this
  intro j x hx
  have hj : j < 42 := (List.getElem?_eq_some_iff.1 hx).1
  have hdec : ∀ j, j < 42 → ∀ x, ruleTab[j]? = some x → ∃ r, ruleRows[j / 6]? = some r ∧ r[j % 6]? = some (x == 1) := by
    intro j hj x hx
    have : (ruleRows[j / 6]?.bind fun r => r[j % 6]?) = (ruleTab[j]?).map (· == 1) := by
      have h : ∀ j : Fin 42, (ruleRows[j.1 / 6]?.bind fun r => r[j.1 % 6]?) = (ruleTab[j.1]?).map (· == 1) := by decide
      exact h ⟨j, hj⟩
    rw [hx] at this
    simp only [Option.map_some, Option.bind_eq_some_iff] at this
    exact this
  obtain ⟨r, h1, h2⟩ := hdec j hj x hx
  have := key (j / 6) r h1 (j % 6) _ h2 (by omega)
  rwa [show j / 6 * 6 + j % 6 = j by omega] at this
theorem mx_of_shaped {W : World} (h : W.ShapedOpen Tryz.prog) : ∃ m : Int, W.cell? ⟨1, 0, none⟩ = some (.int .i64 m) :=
  cell_of_shapedOpen_int (t := 3) (zero := #[.int .i64 0]) h (by decide +kernel) (by kernel_rfl) rfl (by kernel_rfl) (by kernel_rfl) Tryz.underlying3
set_option maxRecDepth 100000 in
theorem env_right {W : World} (hL : laidMetH Tryz.prog Rows.printReadRow.laid W) (hs : W.ShapedOpen Tryz.prog) : Wps.Ev W ∧ Rules W := by
  have h0 : laidMet Tryz.prog Rows.printReadRow.laid W := hL
  refine ⟨⟨⟨⟨?_, ?_⟩, ?_⟩, mx_of_shaped hs, ?_⟩, ?_⟩
  · exact Wch.spans_of_reads (N := 15) (by kernel_rfl) (by kernel_rfl) Tryz.underlying130 rfl (by omega) (Lib.laidMet.reads h0 (.tail _ (.tail _ (.tail _ (.head _)))))
  · exact Wch.spans_of_reads (N := 5) (by kernel_rfl) (by kernel_rfl) Tryz.underlying129 rfl (by omega) (Lib.laidMet.reads h0 (.tail _ (.tail _ (.tail _ (.tail _ (.head _))))))
  · exact utf8Tabs_of_readsT ({ Tryz.lays197 with } : U8Types _ _) ⟨by kernel_rfl, by kernel_rfl, by kernel_rfl, by kernel_rfl, by kernel_rfl, by kernel_rfl, by kernel_rfl⟩
      (Lib.laidMet.reads h0 (.tail _ (.tail _ (.tail _ (.tail _ (.tail _ (.tail _ (.tail _ (.head _))))))))) (Lib.laidMet.reads h0 (.head _))
  · exact foldTab_of (Lib.laidMet.reads h0 (.tail _ (.head _)))
  · exact rules_of (Lib.laidMet.reads h0 (.tail _ (.tail _ (.tail _ (.tail _ (.tail _ (.head _)))))))
end Go.Proofs.YtemfmidhekdekaaGreatDoor.Wtr
namespace Go.Proofs
open Go.Shelf
def Tryz.lays274g_ren : Go.Shelf.Ren := ⟨fun | 274 => 122 | n => n, fun | 21 => 21 | 162 => 139 | 160 => 137 | 3 => 3 | 4 => 4 | 46 => 104 | 0 => 0 | 208 => 148 | 51 => 117 | 206 => 146 | n => n, fun | 13 => 8 | n => n⟩
theorem Tryz.lays274g : Go.Proofs.Lays.n274 Tryz.prog Tryz.lays274g_ren := {
  mixed := by kernel_rfl
  f274 := Tryz.func122.trans (congrArg some (by kernel_rfl))
  t0 := Tryz.underlying0
  a0 := Tryz.isAgg0
  z0 := Tryz.sizeOf0
  v0 := Tryz.zeroValue0
  t3 := Tryz.underlying3
  a3 := Tryz.isAgg3
  z3 := Tryz.sizeOf3
  v3 := Tryz.zeroValue3
  t4 := Tryz.underlying4
  a4 := Tryz.isAgg4
  z4 := Tryz.sizeOf4
  v4 := Tryz.zeroValue4
  t21 := Tryz.underlying21
  a21 := Tryz.isAgg21
  z21 := Tryz.sizeOf21
  v21 := Tryz.zeroValue21
  t46 := Tryz.underlying104
  a46 := Tryz.isAgg104
  z46 := Tryz.sizeOf104
  v46 := Tryz.zeroValue104
  t51 := Tryz.underlying117
  a51 := Tryz.isAgg117
  z51 := Tryz.sizeOf117
  v51 := Tryz.zeroValue117
  t160 := Tryz.underlying137
  a160 := Tryz.isAgg137
  z160 := Tryz.sizeOf137
  v160 := Tryz.zeroValue137
  t162 := Tryz.underlying139
  a162 := Tryz.isAgg139
  z162 := Tryz.sizeOf139
  v162 := Tryz.zeroValue139
  t208 := Tryz.underlying148
  a208 := Tryz.isAgg148
  z208 := Tryz.sizeOf148
  v208 := Tryz.zeroValue148 }
end Go.Proofs
namespace Go.Proofs.YtemfmidhekdekaaGreatDoor.Wtr
open Go

theorem laidVars_split {P : Program} {w : World} : ∀ {l l' : List (String × DataW Unit)} {ps : List MemPlace}, DataW.LaidVars P w (l ++ l') ps → ∃ p q, ps = p ++ q ∧ DataW.LaidVars P w l p ∧ DataW.LaidVars P w l' q
  | [], l', ps, h => ⟨[], ps, rfl, rfl, h⟩
  | (n, d) :: r, l', ps, h => by
    obtain ⟨g, t, cs, fuel, p, q, h1, h2, h3, h4, h5, rfl⟩ := h
    obtain ⟨p1, q1, rfl, h6, h7⟩ := laidVars_split h5
    exact ⟨_, q1, by rw [List.append_assoc]; exact (List.append_assoc _ _ _).symm ▸ (by simp [List.append_assoc]), ⟨g, t, cs, fuel, p, p1, h1, h2, h3, h4, h6, rfl⟩, h7⟩
theorem laidMet_last2 {P : Program} {w : World} {l : List (String × DataW Unit)} {x y : String × DataW Unit} (h : laidMet P (l ++ [x, y]) w) : laidMet P (l ++ [y, x]) w := by
  obtain ⟨ps, h1, h2, h3⟩ := h
  obtain ⟨p, q, rfl, hl, hxy⟩ := laidVars_split h1
  obtain ⟨a, b, rfl, hx, hy⟩ := laidVars_split (l := [x]) (l' := [y]) hxy
  have hperm : (p ++ (b ++ a)).Perm (p ++ (a ++ b)) := List.Perm.append_left p List.perm_append_comm
  exact ⟨p ++ (b ++ a), LaidVars_append hl (LaidVars_append (l := [y]) hy hx), hperm.nodup_iff.2 h2, fun b' off hb => h3 b' off (hperm.mem_iff.1 hb)⟩
end Go.Proofs.YtemfmidhekdekaaGreatDoor.Wtr
