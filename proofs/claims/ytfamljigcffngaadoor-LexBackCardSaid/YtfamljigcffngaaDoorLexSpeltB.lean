/- Plain: tokens written one behind another are scanned back; the shape of what a scan gives. -/
import Derived.Test.YtfamljigcffngaaDoorLexSpelt
import Derived.Lib.ParseIntBTie
namespace Go.Proofs.YtfamljigcffngaaDoor.Plx
open Go Go.Lib

theorem good_of_spell (t : Tok) (w : List UInt8) (h : spellL t = some w) (h0 : t.1 ≠ 0) (h1 : t.2.2 ≤ 9223372036854775807) : Good t w := by
  obtain ⟨k, x, n⟩ := t
  unfold spellL at h
  dsimp only at h h0 h1
  rw [if_neg h0] at h
  by_cases k1 : k = 1
  · subst k1
    rw [if_pos rfl] at h
    split at h
    · rename_i g
      obtain ⟨g1, rfl⟩ := g
      cases h
      exact good_name w g1
    · cases h
  rw [if_neg k1] at h
  by_cases k2 : k = 2
  · subst k2
    rw [if_pos rfl] at h
    split at h
    · rename_i g
      obtain ⟨g1, rfl⟩ := g
      cases h
      obtain ⟨u, rfl⟩ : ∃ u : Nat, n = u := ⟨n.toNat, by omega⟩
      exact good_whole u (by omega)
    · cases h
  rw [if_neg k2] at h
  by_cases k3 : k = 3
  · subst k3
    rw [if_pos rfl] at h
    split at h
    · rename_i g
      obtain ⟨g1, _, rfl⟩ := g
      cases h
      exact good_str x g1
    · cases h
  rw [if_neg k3] at h
  by_cases k4 : k = 4
  · subst k4
    rw [if_pos rfl] at h
    split at h
    · rename_i g
      obtain ⟨g1, rfl⟩ := g
      cases h
      exact good_var x g1
    · cases h
  rw [if_neg k4] at h
  by_cases k5 : k = 5
  · subst k5
    rw [if_pos rfl] at h
    split at h
    · rename_i g
      obtain ⟨g1, rfl⟩ := g
      cases h
      exact good_sign w g1
    · cases h
  rw [if_neg k5] at h
  cases h
/-! ### what is scanned can be written -/
theorem nameR_head : ∀ (ps qs : List (Nat × Nat)), nameR false (ps ++ qs) = widths ps → (∀ p ∈ ps, 1 ≤ p.2) → (ps.all fun p => Pch.nameB p.1) = true
  | [], _, _, _ => rfl
  | p :: ps, qs, h, hp => by
    have h1 := hp p (.head _)
    rw [List.cons_append, nameR, widths] at h
    split at h
    · rename_i g
      rw [Bool.and_eq_true] at g
      rw [List.all_cons, g.1, nameR_head ps qs (by omega) fun q hq => hp q (.tail _ hq)]
      rfl
    · omega
theorem name_is (l : List UInt8) (h : Pch.textsL l = true) (h0 : nameN l ≠ 0) (h1 : nameN l ≤ 100) : Pch.nameL (l.take (nameN l)) = true := by
  have hd := name_behind l h
  have hT := texts_take l _ h hd
  have hs := runes_split l _ h hd
  have hp := runes_pos _ (l.take (nameN l)) (Nat.le_refl _)
  have hw := widths_all _ (l.take (nameN l)) (Nat.le_refl _)
  have hle := nameN_le l
  rw [List.length_take, Nat.min_eq_left hle] at hw
  have hl : (l.take (nameN l)).length ≤ 100 := by rw [List.length_take]; omega
  have hN : nameN l = nameR true (Pch.runes l) := rfl
  rw [hs] at hN
  unfold Pch.nameL
  rw [Bool.and_eq_true]
  refine ⟨decide_eq_true hl, ?_⟩
  unfold Pch.textsL at hT
  generalize Pch.runes (l.take (nameN l)) = ps at *
  generalize Pch.runes (l.drop (nameN l)) = qs at *
  generalize nameN l = n at *
  cases ps with
  | nil => rw [widths] at hw; omega
  | cons p ps =>
    have p1 := hp p (.head _)
    rw [widths] at hw
    rw [List.cons_append, nameR] at hN
    rw [List.all_cons, Bool.and_eq_true, Bool.and_eq_true] at hT
    split at hN
    · rename_i g
      rw [Bool.and_eq_true] at g
      have ha := nameR_head ps qs (by omega) fun q hq => hp q (.tail _ hq)
      simp only [Pch.headB, Bool.and_eq_true]
      refine ⟨⟨hT.1.1, by simpa using g.2⟩, ?_⟩
      rw [Pch.all_and, ha, Bool.and_true]
      exact Pch.all_weaken _ (fun y hy => by rw [Bool.and_eq_true] at hy; exact hy.1) hT.2
    · omega
/-- a token that can be written -/
def Writ (t : Tok) : Prop := t.1 ≠ 0 ∧ t.2.2 ≤ 9223372036854775807 ∧ ∃ w, spellL t = some w
theorem tok_spell (l : List UInt8) (t : Tok) (m : Nat) (h : Pch.textsL l = true) (hx : tokL l = .ok (t, m)) (hl : l.length ≤ 65536) : Writ t := by
  cases l with
  | nil => cases hx
  | cons c r =>
    rw [tokL_cons] at hx
    split at hx
    · unfold wholeL at hx
      split at hx
      · cases hx
      · split at hx
        · rename_i v hv
          cases hx
          have hb := Lib.parseIntB_bounds hv
          have p63 : ((2 ^ (64 - 1) : Nat) : Int) = 9223372036854775808 := by decide
          rw [p63] at hb
          have ha : ((c :: r).take (digN (c :: r))).all Pdg.dgt = true := by
            have e : (c :: r).take (digN (c :: r)) = (c :: r).takeWhile isDig := by
              unfold digN
              exact (List.prefix_iff_eq_take.1 (List.takeWhile_prefix _)).symm
            rw [e]
            have := List.all_takeWhile (l := c :: r) (p := isDig)
            rw [← this]
            congr 1
            funext y
            exact dgt_isDig y
          have h0 := Pdg.parse_digits _ ha v hv
          refine ⟨by dsimp only; omega, by dsimp only; omega, Lib.itoa v, ?_⟩
          unfold spellL
          dsimp only
          rw [if_neg (by omega), if_neg (by omega), if_pos rfl, if_pos ⟨h0, rfl⟩]
        · cases hx
    · split at hx
      · rename_i hq
        unfold quoL at hx
        split at hx
        · cases hx
        · rename_i y hy
          cases hx
          have hlow : c.toNat < 128 := by rcases hq with rfl | rfl <;> decide
          have hT := quo_texts c hq r y [] hy (texts_low c r hlow h)
          rw [List.nil_append] at hT
          have hle := quo_le c r y hy
          simp only [List.length_cons] at hl
          refine ⟨by dsimp only; omega, by dsimp only; omega, 34 :: (dbl y.1 ++ [34]), ?_⟩
          unfold spellL
          dsimp only
          rw [if_neg (by omega), if_neg (by omega), if_neg (by omega), if_pos rfl, if_pos ⟨hT, by omega, rfl⟩]
      · unfold wordL wordR at hx
        split at hx
        · cases hx
        · rename_i g1
          split at hx
          · rename_i g2
            cases hx
            have hN := name_is _ (ahead_texts c r h) g2 (by omega)
            unfold kindN
            split
            · refine ⟨by dsimp only; omega, by dsimp only; omega, 36 :: ((c :: r).drop (aheadN c)).take (nameN ((c :: r).drop (aheadN c))), ?_⟩
              unfold spellL
              dsimp only
              rw [if_neg (by omega), if_neg (by omega), if_neg (by omega), if_neg (by omega), if_pos rfl, if_pos ⟨hN, rfl⟩]
            · refine ⟨by dsimp only; omega, by dsimp only; omega, ((c :: r).drop (aheadN c)).take (nameN ((c :: r).drop (aheadN c))), ?_⟩
              unfold spellL
              dsimp only
              rw [if_neg (by omega), if_pos rfl, if_pos ⟨hN, rfl⟩]
          · unfold signR at hx
            split at hx
            · rename_i s hs
              cases hx
              refine ⟨by dsimp only; omega, by dsimp only; omega, s, ?_⟩
              unfold spellL
              dsimp only
              rw [if_neg (by omega), if_neg (by omega), if_neg (by omega), if_neg (by omega), if_neg (by omega), if_pos rfl, if_pos ⟨(signAt_le _ _ hs).1, rfl⟩]
            · cases hx
theorem scan_ne : ∀ (f a : Nat) (l : List UInt8), scanG f a l ≠ .ok []
  | 0, _, _, h => by cases h
  | f + 1, a, l, h => by
    unfold scanG at h
    split at h
    · cases h
    · split at h
      · split at h
        · cases h
        · exact scan_ne f _ _ h
      · split at h
        · cases h
        · split at h
          · cases h
          · cases h
theorem scan_shape : ∀ (f a : Nat) (l : List UInt8) (ts : List (Tok × Nat)), scanG f a l = .ok ts → Pch.textsL l = true → l.length ≤ 65536 →
    ∃ ts', ts = ts' ++ [((0, [], 0), a + l.length)] ∧ ∀ x ∈ ts', Writ x.1
  | f, a, l, [], h, _, _ => absurd h (scan_ne f a l)
  | f, a, l, (t, p) :: ts, h, ht, hl => by
    obtain ⟨h1, h2, h3, _, h5⟩ := gap_any f a l t p ts h ht
    rcases h5 with ⟨e1, rfl, rfl⟩ | ⟨m, f', g1, _, _, _, g5⟩
    · refine ⟨[], ?_, by simp⟩
      have := congrArg List.length e1
      rw [List.length_drop, List.length_nil] at this
      rw [List.nil_append, show a + l.length = p by omega]
    · have hT := tok_behind _ _ h3 g1
      have hb := (tokL_le _ _ g1).2.1
      rw [List.length_drop] at hb
      dsimp only at hT hb
      obtain ⟨ts', e, hw⟩ := scan_shape f' (p + m) _ ts g5 hT (by rw [List.length_drop, List.length_drop]; omega)
      refine ⟨(t, p) :: ts', ?_, ?_⟩
      · rw [e, List.length_drop, List.length_drop, List.cons_append, show p + m + (l.length - (p - a) - m) = a + l.length by omega]
      · intro x hx
        rcases List.mem_cons.1 hx with rfl | hx
        · exact tok_spell _ t m h3 g1 (by rw [List.length_drop]; omega)
        · exact hw x hx
theorem scan_err : ∀ (f a : Nat) (l : List UInt8) (e p : Nat), scanG f a l = .error (e, p) → l.length < f → p ≤ a + l.length
  | 0, _, _, _, _, _, h => by omega
  | f + 1, a, l, e, p, h, hf => by
    have hle := trimB_le l
    unfold scanG at h
    split at h
    · cases h
    · split at h
      · split at h
        · cases h; omega
        · rename_i n hc
          have hb := com_le _ _ _ hc
          have := scan_err f _ _ e p h (by rw [List.length_drop]; omega)
          rw [List.length_drop] at this
          omega
      · split at h
        · cases h; omega
        · rename_i x hx
          have hb := tokL_le _ _ hx
          split at h
          · rename_i e' he
            cases h
            have := scan_err f _ _ _ _ he (by rw [List.length_drop]; omega)
            rw [List.length_drop] at this
            omega
          · cases h
theorem wrong_le : ∀ (ps : List (Nat × Nat)) (n p : Nat), wrongR n ps = some p → p ≤ n + widths ps
  | [], n, p, h => by cases h
  | q :: ps, n, p, h => by
    rw [wrongR] at h
    rw [widths]
    split at h
    · have := wrong_le ps _ p h
      omega
    · cases h; omega
theorem scanL_err (l : List UInt8) (e p : Nat) (h : scanL l = .error (e, p)) : p ≤ l.length := by
  unfold scanL at h
  split at h
  · cases h; omega
  · split at h
    · rename_i q hq
      cases h
      have := wrong_le _ _ _ hq
      rw [widths_all _ l (Nat.le_refl _)] at this
      omega
    · have := scan_err _ _ _ _ _ h (by omega)
      omega
/-! ### written and scanned again -/
/-- what may stand between two words: a blank, and what the scanner goes past -/
structure Gap (g : List UInt8) : Prop where
  head : ∃ b g', g = b :: g' ∧ blB b = true
  txt : Pch.textsL g = true
  skip : ∀ (f f' a : Nat) (r : List UInt8), (g ++ r).length < f → r.length < f' → scanG f a (g ++ r) = scanG f' (a + g.length) r
theorem skip_blank (b : UInt8) (hb : blB b = true) (f f' a : Nat) (r : List UInt8) (hf : r.length + 1 < f) (hf' : r.length < f') : scanG f a (b :: r) = scanG f' (a + 1) r := by
  rw [scanG_fuel f' f (a + 1) r hf' (by omega)]
  have hle := trimB_le r
  have e : trimB (b :: r) = trimB r := by rw [trimB_eq, List.dropWhile_cons, if_pos hb]; rfl
  obtain ⟨f, rfl⟩ : ∃ j, f = j + 1 := ⟨f - 1, by omega⟩
  have e2 : a + ((b :: r).length - (trimB r).length) = a + 1 + (r.length - (trimB r).length) := by simp only [List.length_cons]; omega
  unfold scanG
  rw [e, e2]
theorem gap_one (b : UInt8) (hb : blB b = true) (ht : Pch.textsL [b] = true) : Gap [b] :=
  ⟨⟨b, [], rfl, hb⟩, ht, fun f f' a r hf hf' => skip_blank b hb f f' a r (by simpa [Nat.add_comm] using hf) hf'⟩
def words (L : List (Tok × List UInt8 × List UInt8)) : List UInt8 := L.flatMap fun x => x.2.1 ++ x.2.2
theorem words_cons (x : Tok × List UInt8 × List UInt8) (L) : words (x :: L) = x.2.1 ++ x.2.2 ++ words L := rfl
theorem words_texts : ∀ (L : List (Tok × List UInt8 × List UInt8)) (tl : List UInt8), (∀ x ∈ L, Good x.1 x.2.1 ∧ Gap x.2.2) → Pch.textsL tl = true → Pch.textsL (words L ++ tl) = true
  | [], tl, _, h => h
  | x :: L, tl, hL, h => by
    obtain ⟨hg, hp⟩ := hL x (.head _)
    rw [words_cons, List.append_assoc, List.append_assoc, Pch.texts_left _ _ hg.txt, Pch.texts_left _ _ hp.txt]
    exact words_texts L tl (fun y hy => hL y (.tail _ hy)) h
theorem scan_words : ∀ (L : List (Tok × List UInt8 × List UInt8)) (tl : List UInt8) (f a : Nat), (∀ x ∈ L, Good x.1 x.2.1 ∧ Gap x.2.2) → trimB tl = [] → (words L ++ tl).length < f →
    ∃ ts, scanG f a (words L ++ tl) = .ok ts ∧ ts.map (·.1) = L.map (·.1) ++ [(0, [], 0)]
  | [], tl, f, a, _, ht, hf => by
    obtain ⟨f, rfl⟩ : ∃ j, f = j + 1 := ⟨f - 1, by omega⟩
    exact ⟨_, scanG_end f a tl ht, rfl⟩
  | x :: L, tl, f, a, hL, ht, hf => by
    obtain ⟨hg, hp⟩ := hL x (.head _)
    obtain ⟨b, g', hb, hbl⟩ := hp.head
    obtain ⟨f, rfl⟩ : ∃ j, f = j + 1 := ⟨f - 1, by omega⟩
    rw [words_cons, List.append_assoc, List.append_assoc] at hf ⊢
    have hpos := List.length_pos_iff.2 hg.ne
    rw [List.length_append, List.length_append] at hf
    obtain ⟨ts, h1, h2⟩ := scan_words L tl f (a + 0 + x.2.1.length + x.2.2.length) (fun y hy => hL y (.tail _ hy)) ht (by omega)
    have hT := hg.tok b (g' ++ (words L ++ tl)) hbl
    have hC := hg.com b (g' ++ (words L ++ tl)) hbl
    rw [← List.cons_append, ← hb] at hT hC
    have hM := hg.trim (x.2.2 ++ (words L ++ tl))
    have hS := hp.skip f f (a + 0 + x.2.1.length) (words L ++ tl) (by rw [List.length_append]; omega) (by omega)
    refine ⟨(x.1, a + 0) :: ts, ?_, ?_⟩
    · rw [scanG_tok f a _ (by rw [hM]; intro e; have := congrArg List.length e; rw [List.length_append, List.length_nil] at this; omega) (by rw [hM]; exact hC), hM, hT]
      dsimp only
      rw [Nat.sub_self, List.drop_left' rfl, hS, h1]
      rfl
    · rw [List.map_cons, h2]
      rfl
end Go.Proofs.YtfamljigcffngaaDoor.Plx
