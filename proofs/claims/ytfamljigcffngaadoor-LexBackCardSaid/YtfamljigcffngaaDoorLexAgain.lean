/- Plain: what LexPlaces says, of the scanner's words. -/
import Derived.Test.YtfamljigcffngaaDoorLexSpeltB
import Derived.Test.YtfamljigcffngaaDoorLexAwake
namespace Go.Proofs.YtfamljigcffngaaDoor.Wlx
open Go

theorem scanL_ok {l : List UInt8} {ts : List (Plx.Tok × Nat)} (h : Plx.scanL l = .ok ts) : l.length ≤ 65536 ∧ Pch.textsL l = true ∧ Plx.scanG (l.length + 1) 0 l = .ok ts := by
  unfold Plx.scanL at h
  split at h
  · cases h
  · rename_i h1
    split at h
    · cases h
    · rename_i h2
      exact ⟨by omega, (Plx.wrong_texts l).1 h2, h⟩
theorem scanL_mk {l : List UInt8} (h1 : l.length ≤ 65536) (h2 : Pch.textsL l = true) : Plx.scanL l = Plx.scanG (l.length + 1) 0 l := by
  unfold Plx.scanL
  rw [if_neg (by omega), (Plx.wrong_texts l).2 h2]
theorem shape_of {l : List UInt8} {ts : List (Plx.Tok × Nat)} (h : Plx.scanL l = .ok ts) : ∃ ts', ts = ts' ++ [((0, [], 0), l.length)] ∧ ∀ x ∈ ts', Plx.Writ x.1 := by
  obtain ⟨h1, h2, h3⟩ := scanL_ok h
  obtain ⟨ts', e, hw⟩ := Plx.scan_shape _ _ _ _ h3 h2 h1
  exact ⟨ts', by rw [e, Nat.zero_add], hw⟩
/-- each two tokens that follow one another -/
theorem pair_of {l : List UInt8} {ts : List (Plx.Tok × Nat)} (h : Plx.scanL l = .ok ts) {i : Nat} {x y : Plx.Tok × Nat} (hx : ts[i]? = some x) (hy : ts[i + 1]? = some y) :
    x.2 < y.2 ∧ y.2 ≤ l.length ∧ (∃ w, Plx.spellL x.1 = some w ∧ w ≠ []) ∧ Plx.scanL ((l.take y.2).drop x.2) = .ok [(x.1, 0), ((0, [], 0), y.2 - x.2)] := by
  obtain ⟨h1, h2, h3⟩ := scanL_ok h
  obtain ⟨ts', e, hw⟩ := shape_of h
  obtain ⟨p1, p2, p3, p4⟩ := Plx.pairs_any ts _ 0 l (by simpa using h3) (Nat.zero_le _) (by simpa using h2) i x y hx hy
  have hl : ((l.take y.2).drop x.2).length = y.2 - x.2 := by rw [List.length_drop, List.length_take]; omega
  refine ⟨p1, p2, ?_, ?_⟩
  · have hi : i < ts'.length := by
      have := (List.getElem?_eq_some_iff.1 hy).1
      rw [e, List.length_append, List.length_singleton] at this
      omega
    rw [e, List.getElem?_append_left hi] at hx
    obtain ⟨q0, q1, w, q2⟩ := hw x (List.mem_of_getElem? hx)
    exact ⟨w, q2, (Plx.good_of_spell _ _ q2 q0 q1).ne⟩
  · rw [scanL_mk (by omega) p3, hl, p4]
theorem spells_app (a b : List (Plx.Tok × Nat)) : spellsL (a ++ b) = spellsL a ++ spellsL b := by simp [spellsL]
theorem gap_blank : Plx.Gap [32] := Plx.gap_one 32 (by decide) (by decide)
theorem again_ok {l : List UInt8} {ts : List (Plx.Tok × Nat)} (h : Plx.scanL l = .ok ts) (hl : (spellsL ts).length ≤ 65536) : ∃ ts2, Plx.scanL (spellsL ts) = .ok ts2 ∧ ts2.map (·.1) = ts.map (·.1) := by
  obtain ⟨ts', rfl, hw⟩ := shape_of h
  let L : List (Plx.Tok × List UInt8 × List UInt8) := ts'.map fun x => (x.1, spellW x.1, [32])
  have e : spellsL (ts' ++ [((0, [], 0), l.length)]) = Plx.words L ++ [32] := by
    rw [spells_app]
    congr 1
    simp [spellsL, Plx.words, L, List.flatMap_map]
  have hL : ∀ x ∈ L, Plx.Good x.1 x.2.1 ∧ Plx.Gap x.2.2 := by
    intro x hx
    obtain ⟨y, hy, rfl⟩ := List.mem_map.1 hx
    obtain ⟨q0, q1, w, q2⟩ := hw y hy
    refine ⟨?_, gap_blank⟩
    show Plx.Good y.1 (spellW y.1)
    have : spellW y.1 = w := by unfold spellW; rw [q2]; rfl
    rw [this]
    exact Plx.good_of_spell _ _ q2 q0 q1
  have hT := Plx.words_texts L [32] hL (by decide)
  obtain ⟨ts2, h1, h2⟩ := Plx.scan_words L [32] ((Plx.words L ++ [32]).length + 1) 0 hL (by decide) (Nat.lt_succ_self _)
  rw [e] at hl ⊢
  refine ⟨ts2, by rw [scanL_mk hl hT, h1], ?_⟩
  rw [h2, List.map_append]
  congr 1
  simp [L, List.map_map, Function.comp_def]
theorem again_long {l : List UInt8} (h : 65536 < l.length) : Plx.scanL l = .error (3, 0) := by
  unfold Plx.scanL
  rw [if_pos h]
theorem fit_of {l : List UInt8} {ts : List (Plx.Tok × Nat)} (h : Plx.scanL l = .ok ts) : ∃ ts', ts = ts' ++ [((0, [], 0), l.length)] := by
  obtain ⟨ts', e, _⟩ := shape_of h
  exact ⟨ts', e⟩
end Go.Proofs.YtfamljigcffngaaDoor.Wlx
