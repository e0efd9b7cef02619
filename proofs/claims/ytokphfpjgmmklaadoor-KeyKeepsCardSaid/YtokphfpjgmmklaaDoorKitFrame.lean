/- Words for the frames: how long a slice of bytes is that came in. -/
import Derived.Test.YtokphfpjgmmklaaDoorKitBytes
import Derived.SizedLaws
namespace Go.Proofs.YtokphfpjgmmklaaDoor.Kb
open Go Go.RowKit Go.ChangeShapes Go.WideShapes Go.ChangeAt

set_option maxRecDepth 100000 in
theorem bytes_len {H : Type} {enc : TypeId × Value → H} {W : World} {A : Option Addr} {n c : Nat} {d : DataW H} {p : List MemPlace} (h : DataW.Trod enc Tryd.prog W 0 (fun _ => true) true 22 (.slice A n c) d p) :
    n = 0 ∨ ∃ el sp, d = .slice el sp ∧ el.length = n := by
  obtain ⟨fuel, hf⟩ := h
  have hc : Tryd.prog.cellsOf 5 = 1 := by kernel_rfl
  rcases open_ints Tryd.underlying22 Tryd.underlying5 hc hf with ⟨hcs, _⟩ | ⟨a, len', cap', zs, hcs, _, hl, hm, hz, hx, _⟩
  · simp [Value.cells] at hcs
    exact .inl hcs.2.1
  · simp [Value.cells] at hcs
    obtain ⟨rfl, rfl, rfl⟩ := hcs
    simp only [if_true] at hz
    injection hx with hd _
    exact .inr ⟨_, _, hd, by simp [lits]; omega⟩
theorem bytes_of : Tryd.prog.bytesOf 5 = 1 := by kernel_rfl
theorem sized_bytes {H : Type} {ts : List TypeId} {ds : List (DataW H)} (h : (DataW.weightsEach Tryd.prog ts ds).all (· ≤ reachBytes) = true) {j : Nat} {d : DataW H} {n : Nat} (ht : ts[j]? = some 22) (hd : ds[j]? = some d)
    (hn : n = 0 ∨ ∃ el sp, d = .slice el sp ∧ el.length = n) : n ≤ 140737488355328 := by
  rcases hn with rfl | ⟨el, sp, rfl, rfl⟩
  · omega
  · have h1 := sized_slice h ht hd Tryd.underlying22
    rw [bytes_of] at h1
    have h2 := reachBytes_lt
    have h3 : (2 : Nat) ^ 47 = 140737488355328 := by decide
    omega
end Go.Proofs.YtokphfpjgmmklaaDoor.Kb
