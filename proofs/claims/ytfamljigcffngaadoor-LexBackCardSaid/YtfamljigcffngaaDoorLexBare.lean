/- The walks over the kit's CopyTokens and over bare. -/
import Derived.Test.YtfamljigcffngaaDoorLexSame
namespace Go.Proofs.YtfamljigcffngaaDoor.Wlx
open Go Go.RowKit Go.Proofs.YtfamljigcffngaaDoor.Wch

theorem toks_cells {w : World} {b off : Nat} {l : List (Plx.Tok × Nat)} (hr : RdT w (some ⟨b, off, none⟩) l) (j : Nat) (u : Value) (hu : (toksC l)[j]? = some u) : w.cell? ((⟨b, off, none⟩ : Addr).add j) = some u := by
  have hj : j < l.length * 4 := by rw [← toksC_length]; exact (List.getElem?_eq_some_iff.1 hu).1
  have hk : j / 4 < l.length := by omega
  obtain ⟨x, hx⟩ : ∃ x, l[j / 4]? = some x := ⟨_, List.getElem?_eq_getElem hk⟩
  have hm : j % 4 < 4 := Nat.mod_lt _ (by decide)
  have e := toksC_get l (j / 4) x (j % 4) hx hm
  have ej : j / 4 * 4 + j % 4 = j := by omega
  rw [ej, hu] at e
  obtain ⟨b', off', hA, hc⟩ := hr (by intro e; subst e; simp at hk)
  cases hA
  obtain ⟨c0, c1, c2, c3⟩ := hc _ x hx
  have ha : (⟨b, off, none⟩ : Addr).add j = ⟨b, off + j, none⟩ := by unfold Addr.add; by_cases h : j = 0 <;> simp [h]
  rw [ha]
  have hcase : j % 4 = 0 ∨ j % 4 = 1 ∨ j % 4 = 2 ∨ j % 4 = 3 := by omega
  rcases hcase with h | h | h | h <;> rw [h] at e <;> simp only [tokC, List.getElem?_cons_zero, List.getElem?_cons_succ, Option.some.injEq] at e <;> subst e
  · rw [show off + j = off + j / 4 * 4 by omega]; exact c0
  · rw [show off + j = off + j / 4 * 4 + 1 by omega]; exact c1
  · rw [show off + j = off + j / 4 * 4 + 2 by omega]; exact c2
  · rw [show off + j = off + j / 4 * 4 + 3 by omega]; exact c3
theorem toks_one (l : List (Plx.Tok × Nat)) : ∀ u ∈ toksC l, u.oneCell' = true := by
  intro u hu
  obtain ⟨x, _, hx⟩ := List.mem_flatMap.1 hu
  simp only [tokC, List.mem_cons, List.mem_nil_iff, or_false] at hx
  rcases hx with rfl | rfl | rfl | rfl <;> rfl
set_option maxRecDepth 100000 in
theorem copyT_any (b off : Nat) (l : List (Plx.Tok × Nat)) (c : Nat) (w : World) (hr : RdT w (some ⟨b, off, none⟩) l) (hl : l.length ≤ 100000000) :
    Calls Tryd.prog 27 #[.slice (some ⟨b, off, none⟩) l.length c] w fun e w' => ∃ v, e = .returned v ∧ w'.ownsRow w.heap.size 24 4 v l.length (toksC l) ∧ Below w.heap.size w w' := by
  have HC := Kept.mk (toks_cells hr)
  have hown : w.ownsRow w.heap.size 24 4 (.slice none 0 0) 0 [] := World.ownsRow_nil _ _ _ _
  have HO := Kept.mk hown
  clear hr hown
  obtain ⟨i0', hi', hz0', hz1', hz2'⟩ := info_parts infoT
  go_enter Tryd.func27, Tryd.ntmps27
  go_wp2_with (at_builtin; refine wpList_append_own _ rfl (.tmp 4) (.tmp 5) 29 rfl w.heap.size 24 i0' (.agg #[.int .u8 0, .string ⟨#[]⟩, .int .i64 0, .int .i64 0]) 4 40 Tryd.underlying29 hi' hz0' hz1' hz2' rfl (by decide) _ 0 [] rfl HO.out ⟨b, off, none⟩ l.length c (toksC l) rfl (toksC_length l) HC.out (toks_one l) (by unfold maxLen; omega) (by omega) (Nat.le_refl _) ?_; intro v' w1 hown' hg _)
  go_ret
  rw [Nat.zero_add, List.nil_append] at hown'
  exact ⟨v', rfl, hown', Below.grown (Below.refl _ _) hg (Nat.le_refl _) (fun _ hj => (HO.out.lt _ hj).1)⟩
end Go.Proofs.YtfamljigcffngaaDoor.Wlx
