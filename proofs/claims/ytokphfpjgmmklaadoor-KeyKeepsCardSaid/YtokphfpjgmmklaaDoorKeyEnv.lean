/- From the listed package variables to what the walks read of memory. -/
import Derived.Test.YtokphfpjgmmklaaDoorKeyWhole
import Derived.Lib.LaidU8
import Derived.Stop.LaidErr
namespace Go.Proofs.YtokphfpjgmmklaaDoor.Wk
open Go Go.RowKit Go.Lib Go.ChangeShapes Go.WideShapes

theorem tab_of_reads {n : String} {g t e N : Nat} {k : IntKind} {zs : List Int} {W : World} (hn : Tryd.prog.globalNamed n = some g) (ht : (Tryd.prog.globals[g]?).map (·.type) = some t)
    (ha : Tryd.prog.underlying t = some (.array N e)) (he : Tryd.prog.underlying e = some (.int k)) (hce : Tryd.prog.cellsOf e = 1) (hct : Tryd.prog.cellsOf t = N) (h : VarReads Tryd.prog W n (tabData k zs)) : Lib.TabIs Tryd.prog W n k zs := by
  obtain ⟨g', t', cs, fuel, p, hg, hty, hvar, hd⟩ := h
  obtain rfl := Option.some.inj (hn.symm.trans hg)
  obtain rfl := Option.some.inj (ht.symm.trans hty)
  have hcs := cells_of_tab ha he hce hct hd
  unfold Lib.TabIs
  rw [hvar, ← hcs]
theorem iface_of_reads {n nm : String} {g t : Nat} {d : DataW Unit} {W : World} {ms : Array (String × TypeId)} (hn : Tryd.prog.globalNamed n = some g) (ht : (Tryd.prog.globals[g]?).map (·.type) = some t)
    (hi : Tryd.prog.underlying t = some (.interface ms)) (h : VarReads Tryd.prog W n (.iface nm d)) : ∃ te pe, W.cell? ⟨g, 0, none⟩ = some (.iface te pe) := by
  obtain ⟨g', t', cs, fuel, p, hg, hty, hvar, hd⟩ := h
  obtain rfl := Option.some.inj (hn.symm.trans hg)
  obtain rfl := Option.some.inj (ht.symm.trans hty)
  cases fuel with
  | zero => simp [DataW.trod] at hd
  | succ fuel =>
    simp only [DataW.trod, hi] at hd
    have hcell := World.var?_cell hg hvar 0
    rw [← Array.getElem?_toList] at hcell
    generalize cs.toList = l at hd hcell
    rcases l with _ | ⟨x, _ | ⟨y, l⟩⟩
    · simp at hd
    · cases x with
      | iface u v => exact ⟨u, v, hcell⟩
      | _ => simp at hd
    · simp at hd
set_option maxRecDepth 100000 in
theorem env_of {W : World} (hL : laidMetH Tryd.prog Rows.keyIntsRow.laid W) : Env W := by
  have h0 : laidMet Tryd.prog Rows.keyIntsRow.laid W := hL
  refine ⟨?_, ?_, ?_⟩
  · exact tab_of_reads (t := 182) (e := 44) (N := 20) (zs := Lib.pow10Tab) pow_named (by kernel_rfl) Tryd.underlying182 Tryd.underlying44 (by kernel_rfl) (by kernel_rfl) (laidMet.reads h0 (.tail _ (.tail _ (.head _))))
  · exact iface_of_reads (by kernel_rfl) (by kernel_rfl) Tryd.underlying48 (laidMet.reads h0 (.tail _ (.tail _ (.tail _ (.tail _ (.head _))))))
  · exact iface_of_reads (by kernel_rfl) (by kernel_rfl) Tryd.underlying48 (laidMet.reads h0 (.tail _ (.tail _ (.tail _ (.head _)))))
end Go.Proofs.YtokphfpjgmmklaaDoor.Wk
