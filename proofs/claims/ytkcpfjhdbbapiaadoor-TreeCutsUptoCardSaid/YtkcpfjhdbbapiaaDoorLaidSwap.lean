/- The listed variables, the last two the other way round. -/
import Derived.Test.YtkcpfjhdbbapiaaDoorProg
import Derived.Lib.LaidCaseMet
namespace Go.Proofs.YtkcpfjhdbbapiaaDoor.Wtr
open Go

theorem laidVars_split {P : Program} {w : World} : ∀ {l l' : List (String × DataW Unit)} {ps : List MemPlace}, DataW.LaidVars P w (l ++ l') ps → ∃ p q, ps = p ++ q ∧ DataW.LaidVars P w l p ∧ DataW.LaidVars P w l' q
  | [], l', ps, h => ⟨[], ps, rfl, rfl, h⟩
  | (n, d) :: r, l', ps, h => by
    obtain ⟨g, t, cs, fuel, p, q, h1, h2, h3, h4, h5, rfl⟩ := h
    obtain ⟨p1, q1, rfl, h6, h7⟩ := laidVars_split h5
    exact ⟨_, q1, by rw [List.append_assoc]; exact (List.append_assoc _ _ _).symm ▸ (by simp [List.append_assoc]), ⟨g, t, cs, fuel, p, p1, h1, h2, h3, h4, h6, rfl⟩, h7⟩
theorem laidMet_last2 {P : Program} {w : World} {l : List (String × DataW Unit)} {x y : String × DataW Unit} (h : laidMet P (l ++ [x, y]) w) : laidMet P (l ++ [y, x]) w := by
  obtain ⟨ps, h1, h2, h3⟩ := h
  obtain ⟨p, q, rfl, hl, hxy⟩ := laidVars_split h1
  obtain ⟨a, b, rfl, hx, hy⟩ := laidVars_split (l := [x]) (l' := [y]) hxy
  have hperm : (p ++ (b ++ a)).Perm (p ++ (a ++ b)) := List.Perm.append_left p List.perm_append_comm
  exact ⟨p ++ (b ++ a), LaidVars_append hl (LaidVars_append (l := [y]) hy hx), hperm.nodup_iff.2 h2, fun b' off hb => h3 b' off (hperm.mem_iff.1 hb)⟩
end Go.Proofs.YtkcpfjhdbbapiaaDoor.Wtr
