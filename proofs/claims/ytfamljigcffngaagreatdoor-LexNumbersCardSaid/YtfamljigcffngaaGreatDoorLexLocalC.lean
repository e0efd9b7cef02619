/- Plain: the gaps; each stretch of a scanned text, scanned alone. -/
import Derived.Test.YtfamljigcffngaaGreatDoorLexLocalB
namespace Go.Proofs.YtfamljigcffngaaGreatDoor.Plx
open Go Go.Lib

theorem trimB_nil_of (l : List UInt8) (k : Nat) (hk : k ≤ l.length - (trimB l).length) : trimB (l.take k) = [] := by
  induction l generalizing k with
  | nil => simp [trimB, Lib.trimLeftS]
  | cons c l ih =>
    have hle := trimB_le l
    cases k with
    | zero => rfl
    | succ k =>
      by_cases hc : blB c = true
      · have e : trimB (c :: l) = trimB l := by rw [trimB_eq, List.dropWhile_cons, if_pos hc]; rfl
        rw [e] at hk
        simp only [List.length_cons] at hk
        rw [List.take_succ_cons, trimB_eq, List.dropWhile_cons, if_pos hc, ← trimB_eq, ih k (by omega)]
      · have e : trimB (c :: l) = c :: l := by rw [trimB_eq, List.dropWhile_cons, if_neg hc]
        rw [e, Nat.sub_self] at hk
        omega
/-- what a scan that goes well says of its first token: the gap ahead of it, and what follows -/
theorem gap_any : ∀ (f a : Nat) (l : List UInt8) (t : Tok) (p : Nat) (ts : List (Tok × Nat)), scanG f a l = .ok ((t, p) :: ts) → Pch.textsL l = true →
    a ≤ p ∧ p - a ≤ l.length ∧ Pch.textsL (l.drop (p - a)) = true ∧ (∀ g b, p - a < g → scanG g b (l.take (p - a)) = .ok [((0, [], 0), b + (p - a))]) ∧
      ((l.drop (p - a) = [] ∧ t = (0, [], 0) ∧ ts = []) ∨
       (∃ m f', tokL (l.drop (p - a)) = .ok (t, m) ∧ trimB (l.drop (p - a)) = l.drop (p - a) ∧ isCom (l.drop (p - a)) = false ∧ f' < f ∧ scanG f' (p + m) ((l.drop (p - a)).drop m) = .ok ts))
  | 0, _, _, _, _, _, h, _ => by cases h
  | f + 1, a, l, t, p, ts, h, ht => by
    have hle := trimB_le l
    by_cases hn : trimB l = []
    · rw [scanG_end f a l hn] at h
      simp only [Except.ok.injEq, List.cons.injEq, Prod.mk.injEq] at h
      obtain ⟨⟨rfl, rfl⟩, rfl⟩ := h
      have e : a + l.length - a = l.length := by omega
      rw [e, List.drop_length, List.take_length]
      refine ⟨by omega, Nat.le_refl _, rfl, fun g b hg => ?_, .inl ⟨rfl, rfl, rfl⟩⟩
      obtain ⟨g, rfl⟩ : ∃ j, g = j + 1 := ⟨g - 1, by omega⟩
      exact scanG_end g b l hn
    · cases hc : isCom (trimB l) with
      | true =>
        rw [scanG_com f a l hn hc] at h
        cases hm : com 0 (trimB l) with
        | none => rw [hm] at h; cases h
        | some n =>
          rw [hm] at h
          dsimp only at h
          have hb := com_le _ _ _ hm
          have hT : Pch.textsL ((trimB l).drop n) = true := low_behind _ n 41 (by omega) (com_last _ _ _ hm) (by decide) (trimB_texts l ht)
          obtain ⟨h1, h2, h3, h4, h5⟩ := gap_any f _ _ t p ts h hT
          generalize hk : l.length - (trimB l).length = k at *
          have hkk : k ≤ l.length := by omega
          have hD : trimB l = l.drop k := by rw [← hk]; exact trimB_drop l
          have hlen : (trimB l).length = l.length - k := by omega
          rw [List.length_drop, hlen] at h2
          have eD : ((trimB l).drop n).drop (p - (a + k + n)) = l.drop (p - a) := by rw [hD, List.drop_drop, List.drop_drop]; congr 1; omega
          rw [eD] at h3 h5
          refine ⟨by omega, by omega, h3, fun g b hg => ?_, ?_⟩
          · obtain ⟨g, rfl⟩ : ∃ j, g = j + 1 := ⟨g - 1, by omega⟩
            have eT : trimB (l.take (p - a)) = (trimB l).take (p - a - k) := by
              have := trimB_take l (p - a) (by omega)
              rwa [hk] at this
            have hne : trimB (l.take (p - a)) ≠ [] := by
              rw [eT]
              intro e
              have := congrArg List.length e
              rw [List.length_take, hlen, List.length_nil] at this
              omega
            have hcom : isCom (trimB (l.take (p - a))) = true := by
              rw [eT]
              unfold isCom at hc ⊢
              rw [prefix_take _ _ _ (by simp; omega), hc]
            rw [scanG_com g b _ hne hcom, eT, com_take 0 _ n _ hm (by omega)]
            dsimp only
            have e1 : (l.take (p - a)).length - ((trimB l).take (p - a - k)).length = k := by
              rw [List.length_take, List.length_take, hlen]; omega
            rw [e1, List.drop_take]
            have e2 : p - a - k - n = p - (a + k + n) := by omega
            rw [e2, h4 g (b + k + n) (by omega)]
            congr 3
            omega
          · rcases h5 with h5 | ⟨m, f', g1, g2, g3, g4, g5⟩
            · exact .inl h5
            · exact .inr ⟨m, f', g1, g2, g3, by omega, g5⟩
      | false =>
        rw [scanG_tok f a l hn hc] at h
        cases hx : tokL (trimB l) with
        | error e => rw [hx] at h; cases h
        | ok x =>
          rw [hx] at h
          dsimp only at h
          cases hr : scanG f (a + (l.length - (trimB l).length) + x.2) ((trimB l).drop x.2) with
          | error e => rw [hr] at h; cases h
          | ok ts' =>
            rw [hr] at h
            simp only [pre, Except.ok.injEq, List.cons_append, List.nil_append, List.cons.injEq, Prod.mk.injEq] at h
            obtain ⟨⟨rfl, rfl⟩, rfl⟩ := h
            have e : a + (l.length - (trimB l).length) - a = l.length - (trimB l).length := by omega
            rw [e, ← trimB_drop]
            refine ⟨by omega, by omega, trimB_texts l ht, fun g b hg => ?_, .inr ⟨x.2, f, hx, trimB_idem l, hc, by omega, hr⟩⟩
            obtain ⟨g, rfl⟩ : ∃ j, g = j + 1 := ⟨g - 1, by omega⟩
            rw [scanG_end g b _ (trimB_nil_of l _ (Nat.le_refl _)), List.length_take, Nat.min_eq_left (by omega)]
/-- what is right of two tokens that follow one another -/
def PairOk (l : List UInt8) (x y : Tok × Nat) : Prop :=
  x.2 < y.2 ∧ y.2 ≤ l.length ∧ Pch.textsL ((l.take y.2).drop x.2) = true ∧ scanG (y.2 - x.2 + 1) 0 ((l.take y.2).drop x.2) = .ok [(x.1, 0), ((0, [], 0), y.2 - x.2)]
theorem pair_any (f a : Nat) (l : List UInt8) (t : Tok) (p : Nat) (t2 : Tok) (p2 : Nat) (ts : List (Tok × Nat)) (h : scanG f a l = .ok ((t, p) :: (t2, p2) :: ts)) (ht : Pch.textsL l = true) :
    a ≤ p ∧ p < p2 ∧ p2 - a ≤ l.length ∧ Pch.textsL ((l.drop (p - a)).take (p2 - p)) = true ∧ scanG (p2 - p + 1) 0 ((l.drop (p - a)).take (p2 - p)) = .ok [(t, 0), ((0, [], 0), p2 - p)] ∧
      ∃ m f', tokL (l.drop (p - a)) = .ok (t, m) ∧ f' < f ∧ scanG f' (p + m) (l.drop (p - a + m)) = .ok ((t2, p2) :: ts) ∧ Pch.textsL (l.drop (p - a + m)) = true := by
  obtain ⟨h1, h2, h3, _, h5⟩ := gap_any f a l t p _ h ht
  rcases h5 with ⟨_, _, h6⟩ | ⟨m, f', g1, g2, g3, g4, g5⟩
  · cases h6
  generalize hl' : l.drop (p - a) = l' at *
  have hlen : l'.length = l.length - (p - a) := by rw [← hl', List.length_drop]
  have hb := tokL_le l' _ g1
  dsimp only at hb
  have hT := tok_behind l' _ h3 g1
  dsimp only at hT
  obtain ⟨k1, k2, k3, k4, _⟩ := gap_any f' (p + m) _ t2 p2 ts g5 hT
  rw [List.length_drop] at k2
  rw [List.drop_drop] at k3
  have e1 : m + (p2 - (p + m)) = p2 - p := by omega
  rw [e1] at k3
  have hS : scanG (p2 - p + 1) 0 (l'.take (p2 - p)) = .ok [(t, 0), ((0, [], 0), p2 - p)] := by
    have hne : l' ≠ [] := by intro e; rw [e] at hb; simp at hb; omega
    have eT : trimB (l'.take (p2 - p)) = l'.take (p2 - p) := by
      have := trimB_take l' (p2 - p) (by rw [g2]; omega)
      rw [g2, Nat.sub_self, Nat.sub_zero] at this
      exact this
    have hne2 : trimB (l'.take (p2 - p)) ≠ [] := by
      rw [eT]
      intro e
      have := congrArg List.length e
      rw [List.length_take, List.length_nil] at this
      omega
    have hcom : isCom (trimB (l'.take (p2 - p))) = false := by
      rw [eT]
      cases hc : isCom (l'.take (p2 - p)) with
      | false => rfl
      | true =>
        unfold isCom at hc g3
        rw [prefix_take_le _ _ _ hc] at g3
        cases g3
    rw [scanG_tok _ 0 _ hne2 hcom, eT, tokL_take l' _ (p2 - p) h3 g1 (by dsimp only; omega) k3]
    dsimp only
    rw [Nat.sub_self, List.drop_take]
    have e2 : p2 - p - m = p2 - (p + m) := by omega
    rw [e2, k4 _ _ (by omega)]
    simp only [pre, List.cons_append, List.nil_append, Except.ok.injEq, List.cons.injEq, Prod.mk.injEq, true_and, and_true]
    omega
  refine ⟨h1, by omega, by omega, texts_take l' _ h3 k3, hS, m, f', g1, g4, ?_, ?_⟩
  · rw [← hl', List.drop_drop] at g5
    exact g5
  · rw [← hl', List.drop_drop] at hT
    exact hT
theorem wrong_none : ∀ (ps : List (Nat × Nat)) (n : Nat), wrongR n ps = none ↔ (ps.all fun p => Pch.okR p && Pch.charB p.1) = true
  | [], _ => by simp [wrongR]
  | p :: ps, n => by
    rw [wrongR, List.all_cons]
    split
    · rename_i h
      rw [h, Bool.true_and]
      exact wrong_none ps _
    · rename_i h
      simp [h]
theorem wrong_texts (l : List UInt8) : wrongR 0 (Pch.runes l) = none ↔ Pch.textsL l = true := wrong_none _ _
/-- each two tokens that follow one another, of a scan from the whole text's start -/
theorem pairs_any : ∀ (ts : List (Tok × Nat)) (f a : Nat) (l : List UInt8), scanG f a (l.drop a) = .ok ts → a ≤ l.length → Pch.textsL (l.drop a) = true →
    ∀ i x y, ts[i]? = some x → ts[i + 1]? = some y → PairOk l x y
  | [], _, _, _, _, _, _, i, x, y, hx, _ => by simp at hx
  | [_], _, _, _, _, _, _, i, x, y, _, hy => by simp at hy
  | x0 :: y0 :: ts, f, a, l, h, ha, ht, i, x, y, hx, hy => by
    obtain ⟨t, p⟩ := x0
    obtain ⟨t2, p2⟩ := y0
    obtain ⟨h1, h2, h3, h4, h5, m, f', g1, g2, g3, g4⟩ := pair_any f a _ t p t2 p2 ts h ht
    rw [List.length_drop] at h3
    have e1 : (l.drop a).drop (p - a) = l.drop p := by rw [List.drop_drop]; congr 1; omega
    have e2 : (l.drop a).drop (p - a + m) = l.drop (p + m) := by rw [List.drop_drop]; congr 1; omega
    rw [e1] at h4 h5 g1
    rw [e2] at g3 g4
    cases i with
    | zero =>
      simp only [List.getElem?_cons_zero, List.getElem?_cons_succ, Option.some.injEq] at hx hy
      subst hx hy
      have e3 : (l.drop p).take (p2 - p) = (l.take p2).drop p := by rw [List.drop_take]
      rw [e3] at h4 h5
      exact ⟨h2, by dsimp only; omega, h4, h5⟩
    | succ i =>
      have hb := (tokL_le _ _ g1).2.1
      rw [List.length_drop] at hb
      dsimp only at hb
      exact pairs_any ((t2, p2) :: ts) f' (p + m) l g3 (by omega) g4 i x y (by simpa using hx) (by simpa using hy)
end Go.Proofs.YtfamljigcffngaaGreatDoor.Plx
