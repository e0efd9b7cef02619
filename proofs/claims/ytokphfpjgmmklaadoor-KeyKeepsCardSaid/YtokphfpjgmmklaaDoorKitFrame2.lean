/- A slice of bytes that came in, with all that is told of it. -/
import Derived.Test.YtokphfpjgmmklaaDoorKitBytes
namespace Go.Proofs.YtokphfpjgmmklaaDoor.Kb
open Go Go.RowKit Go.ChangeShapes Go.WideShapes Go.ChangeAt

set_option maxRecDepth 100000 in
theorem open_bytes2 {H : Type} {enc : TypeId × Value → H} {W : World} {base : Nat} {v : Value} {d : DataW H} {p : List MemPlace} (hval : Value.okWide Tryd.prog W .any base 22 v) (h : DataW.Trod enc Tryd.prog W 0 (fun _ => true) true 22 v d p) :
    ∃ (A : Option Addr) (l : List UInt8) (c : Nat), v = .slice A l.length c ∧ l.length ≤ c ∧ (A = none → c = 0) ∧ Rd W A l := by
  obtain ⟨A, l, c, rfl, h1, _, hr⟩ := open_bytes hval h
  refine ⟨A, l, c, rfl, h1, fun hA => ?_, hr⟩
  subst hA
  obtain ⟨fuel, hf⟩ := h
  have hc : Tryd.prog.cellsOf 5 = 1 := by kernel_rfl
  rcases open_ints Tryd.underlying22 Tryd.underlying5 hc hf with ⟨hcs, _⟩ | ⟨a, len', cap', zs, hcs, _⟩
  · simp [Value.cells] at hcs
    exact hcs.2
  · simp [Value.cells] at hcs
end Go.Proofs.YtokphfpjgmmklaaDoor.Kb
