/- Plain: what LexBack says, of the scanner's words: four gaps, and words with gaps between. -/
import Derived.Test.YtfamljigcffngaaDoorLexAgain
namespace Go.Proofs.YtfamljigcffngaaDoor.Plx
open Go

def comG : List UInt8 := [40, 58, 32, 39, 32, 40, 58, 32, 120, 32, 58, 41, 32, 58, 41]
def gap0 : List UInt8 := [32]
def gap1 : List UInt8 := [10]
def gap2 : List UInt8 := [32, 40, 58, 32, 39, 32, 40, 58, 32, 120, 32, 58, 41, 32, 58, 41, 32]
def gap3 : List UInt8 := [9, 32]
theorem com_comG (r : List UInt8) : com 0 (comG ++ r) = some 15 := by
  simp [comG, com]
theorem skip_com (f f' a : Nat) (r : List UInt8) (hf : (comG ++ r).length < f) (hf' : r.length < f') : scanG f a (comG ++ r) = scanG f' (a + 15) r := by
  obtain ⟨f, rfl⟩ : ∃ j, f = j + 1 := ⟨f - 1, by omega⟩
  have e : trimB (comG ++ r) = comG ++ r := trim_head 40 _ (by decide)
  have hl : (comG ++ r).length = 15 + r.length := by rw [List.length_append]; rfl
  rw [scanG_com f a _ (by rw [e]; simp [comG]) (by rw [e]; rfl), e, com_comG]
  dsimp only
  rw [show (comG ++ r).drop 15 = r from List.drop_left' rfl, Nat.sub_self]
  exact scanG_fuel _ _ _ _ (by omega) hf'
theorem gap_two (b c : UInt8) (hb : blB b = true) (hc : blB c = true) (ht : Pch.textsL [b, c] = true) : Gap [b, c] :=
  ⟨⟨b, [c], rfl, hb⟩, ht, fun f f' a r hf hf' => by
    have h1 := skip_blank b hb f f a (c :: r) (by simp only [List.length_append, List.length_cons, List.length_nil] at hf ⊢; omega) (by simp only [List.length_append, List.length_cons, List.length_nil] at hf ⊢; omega)
    have h2 := skip_blank c hc f f' (a + 1) r (by simp only [List.length_append, List.length_cons, List.length_nil] at hf; omega) hf'
    exact h1.trans h2⟩
theorem gap_com : Gap gap2 :=
  ⟨⟨32, _, rfl, by decide⟩, by decide +kernel, fun f f' a r hf hf' => by
    have hl : (gap2 ++ r).length = 17 + r.length := by rw [List.length_append]; rfl
    have h1 := skip_blank 32 (by decide) f f a (comG ++ 32 :: r) (by rw [List.length_append, List.length_cons]; simp only [comG, List.length_cons, List.length_nil]; omega) (by rw [List.length_append, List.length_cons]; simp only [comG, List.length_cons, List.length_nil]; omega)
    have h2 := skip_com f f (a + 1) (32 :: r) (by rw [List.length_append, List.length_cons]; simp only [comG, List.length_cons, List.length_nil]; omega) (by rw [List.length_cons]; omega)
    have h3 := skip_blank 32 (by decide) f f' (a + 1 + 15) r (by omega) hf'
    exact h1.trans (h2.trans h3)⟩
def gapN (n : Nat) : List UInt8 := if n = 0 then gap0 else if n = 1 then gap1 else if n = 2 then gap2 else gap3
theorem gap_of (n : Nat) : Gap (gapN n) := by
  unfold gapN
  split
  · exact gap_one 32 (by decide) (by decide)
  · split
    · exact gap_one 10 (by decide) (by decide)
    · split
      · exact gap_com
      · exact gap_two 9 32 (by decide) (by decide) (by decide)
theorem gap_len (n : Nat) : (gapN n).length ≤ 17 := by
  unfold gapN
  repeat' split
  all_goals decide
/-- words with gaps between are scanned as they were -/
theorem back_any (L : List (Tok × List UInt8 × List UInt8)) (hL : ∀ x ∈ L, Good x.1 x.2.1 ∧ Gap x.2.2) (hl : (words L).length ≤ 65536) :
    ∃ ts, scanL (words L) = .ok ts ∧ ts.map (·.1) = L.map (·.1) ++ [(0, [], 0)] := by
  have hT := words_texts L [] hL (by decide)
  obtain ⟨ts, h1, h2⟩ := scan_words L [] ((words L).length + 1) 0 hL (by decide) (by simp)
  rw [List.append_nil] at h1 hT
  exact ⟨ts, by rw [Wlx.scanL_mk hl hT, h1], h2⟩
theorem words_app (L M : List (Tok × List UInt8 × List UInt8)) : words (L ++ M) = words L ++ words M := by simp [words]
end Go.Proofs.YtfamljigcffngaaDoor.Plx
