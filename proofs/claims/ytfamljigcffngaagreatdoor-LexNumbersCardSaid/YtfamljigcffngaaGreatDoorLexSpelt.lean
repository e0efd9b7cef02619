/- Plain: what a scanned token is written as, and that it is scanned back. -/
import Derived.Test.YtfamljigcffngaaGreatDoorLexLocalC
import Derived.Test.YtfamljigcffngaaGreatDoorDigits
namespace Go.Proofs.YtfamljigcffngaaGreatDoor.Plx
open Go Go.Lib

/-- the word w is read back as the token t, wherever a blank follows -/
structure Good (t : Tok) (w : List UInt8) : Prop where
  ne : w ≠ []
  txt : Pch.textsL w = true
  trim : ∀ r, trimB (w ++ r) = w ++ r
  tok : ∀ b r, blB b = true → tokL (w ++ b :: r) = .ok (t, w.length)
  com : ∀ b r, blB b = true → isCom (w ++ b :: r) = false
theorem blB_cases {b : UInt8} (h : blB b = true) : b = 32 ∨ b = 9 ∨ b = 13 ∨ b = 10 := by
  unfold blB at h
  simpa only [List.contains_eq_mem, List.mem_cons, List.mem_nil_iff, or_false, decide_eq_true_eq] using h
theorem trim_head (c : UInt8) (x : List UInt8) (h : blB c = false) : trimB (c :: x) = c :: x := by
  rw [trimB_eq, List.dropWhile_cons, if_neg (by rw [h]; decide)]
theorem low_runes (c : UInt8) (r : List UInt8) (h : c.toNat < 128) : Pch.runes (c :: r) = (c.toNat, 1) :: Pch.runes r := by
  rw [Pch.runes_step _ (by simp), Pch.decode_low c r h]
  rfl
theorem blank_runes (b : UInt8) (r : List UInt8) (h : blB b = true) : Pch.runes (b :: r) = (b.toNat, 1) :: Pch.runes r := low_runes b r (blB_low h)
theorem blank_name {b : UInt8} (h : blB b = true) : Pch.nameB (b.toNat : Int) = false := by
  rcases blB_cases h with rfl | rfl | rfl | rfl <;> decide
theorem nameR_full : ∀ (ps : List (Nat × Nat)) (q : Nat × Nat) (qs : List (Nat × Nat)), (ps.all fun p => Pch.nameB p.1) = true → Pch.nameB q.1 = false → nameR false (ps ++ q :: qs) = widths ps
  | [], q, qs, _, h => by rw [List.nil_append, nameR, h]; rfl
  | p :: ps, q, qs, h, hq => by
    rw [List.all_cons, Bool.and_eq_true] at h
    rw [List.cons_append, nameR, h.1, nameR_full ps q qs h.2 hq]
    rfl
theorem nameN_full (x : List UInt8) (b : UInt8) (r : List UInt8) (hx : Pch.nameL x = true) (hb : blB b = true) : nameN (x ++ b :: r) = x.length := by
  have hT := Pch.texts_of_name hx
  have hw := widths_all _ x (Nat.le_refl _)
  have hh : Pch.headB (Pch.runes x) = true := by
    simp only [Pch.nameL, Bool.and_eq_true] at hx
    exact hx.2
  unfold nameN
  rw [Pch.runes_app _ x _ (Nat.le_refl _) (Pch.ok_of_texts hT), blank_runes b r hb]
  generalize Pch.runes x = ps at *
  cases ps with
  | nil => cases hh
  | cons p ps =>
    simp only [Pch.headB, Bool.and_eq_true] at hh
    rw [List.cons_append, nameR, Pch.name_of_start hh.1.2, hh.1.2, nameR_full ps _ _ (Pch.all_weaken _ (fun y hy => by rw [Bool.and_eq_true] at hy; exact hy.2) hh.2) (blank_name hb)]
    rw [← hw, widths]
    rfl
theorem name_gt (c : UInt8) (x : List UInt8) (h : Pch.nameL (c :: x) = true) : 64 < c.toNat := by
  by_cases hc : c.toNat < 128
  · simp only [Pch.nameL, Bool.and_eq_true] at h
    rw [low_runes c x hc] at h
    have h2 := h.2
    simp only [Pch.headB, Bool.and_eq_true] at h2
    have := (Pch.startB_iff _).1 h2.1.2
    omega
  · omega
theorem gt_facts {c : UInt8} (h : 64 < c.toNat) : (c = 34 → False) ∧ (c = 39 → False) ∧ (c = 36 → False) ∧ (c = 40 → False) ∧ blB c = false := by
  refine ⟨?_, ?_, ?_, ?_, ?_⟩
  · rintro rfl; exact absurd h (by decide)
  · rintro rfl; exact absurd h (by decide)
  · rintro rfl; exact absurd h (by decide)
  · rintro rfl; exact absurd h (by decide)
  · cases hb : blB c with
    | false => rfl
    | true => rcases blB_cases hb with rfl | rfl | rfl | rfl <;> exact absurd h (by decide)
theorem com_head (c : UInt8) (x : List UInt8) (h : c = 40 → False) : isCom (c :: x) = false := by
  unfold isCom Lib.hasPrefix
  simp only [List.isPrefixOf]
  rw [show ((40 : UInt8) == c) = false from beq_eq_false_iff_ne.2 fun e => h e.symm]
  rfl
theorem good_name (x : List UInt8) (h : Pch.nameL x = true) : Good (1, x, 0) x := by
  have hne := Pch.name_ne h
  have hl : x.length ≤ 100 := by simp only [Pch.nameL, Bool.and_eq_true, decide_eq_true_eq] at h; exact h.1
  obtain ⟨c, y, rfl⟩ : ∃ c y, x = c :: y := by cases x with | nil => exact absurd rfl hne | cons c y => exact ⟨c, y, rfl⟩
  have hg := name_gt c y h
  obtain ⟨f1, f2, f3, f4, f5⟩ := gt_facts hg
  refine ⟨hne, Pch.texts_of_name h, fun r => trim_head c _ f5, fun b r hb => ?_, fun b r _ => com_head c _ f4⟩
  have hN := nameN_full (c :: y) b r h hb
  have hd : isDig c = false := decide_eq_false (by omega)
  rw [List.cons_append] at hN ⊢
  rw [tokL_cons, hd, if_neg (by decide), if_neg (fun e => e.elim f1 f2)]
  unfold wordL aheadN kindN
  rw [if_neg f3, if_neg f3]
  unfold wordR
  rw [List.drop_zero, hN, if_neg (by omega), if_pos (by simp), Nat.zero_add]
  congr 3
  rw [← List.cons_append, List.take_left']
  rfl
theorem good_var (x : List UInt8) (h : Pch.nameL x = true) : Good (4, x, 0) (36 :: x) := by
  have hne := Pch.name_ne h
  have hl : x.length ≤ 100 := by simp only [Pch.nameL, Bool.and_eq_true, decide_eq_true_eq] at h; exact h.1
  have hp : 0 < x.length := List.length_pos_iff.2 hne
  refine ⟨by simp, ?_, fun r => trim_head 36 _ (by decide), fun b r hb => ?_, fun b r _ => com_head 36 _ (by decide)⟩
  · have := Pch.texts_left [36] x (by decide)
    rw [List.singleton_append] at this
    rw [this]
    exact Pch.texts_of_name h
  have hN := nameN_full x b r h hb
  rw [List.cons_append, tokL_cons, if_neg (by decide), if_neg (by decide)]
  unfold wordL aheadN kindN
  rw [if_pos rfl, if_pos rfl]
  unfold wordR
  rw [List.drop_succ_cons, List.drop_zero, hN, if_neg (by omega), if_pos (by omega), List.take_left' rfl, List.length_cons]
  congr 2
  omega
theorem dgt_isDig (c : UInt8) : Pdg.dgt c = isDig c := by
  rw [Bool.eq_iff_iff, Pdg.dgt_iff, isDig, decide_eq_true_eq]
theorem takeWhile_full : ∀ (x : List UInt8) (b : UInt8) (r : List UInt8), x.all isDig = true → isDig b = false → (x ++ b :: r).takeWhile isDig = x
  | [], b, r, _, h => by rw [List.nil_append, List.takeWhile_cons_of_neg (by rw [h]; decide)]
  | c :: x, b, r, h, hb => by
    rw [List.all_cons, Bool.and_eq_true] at h
    rw [List.cons_append, List.takeWhile_cons_of_pos h.1, takeWhile_full x b r h.2 hb]
theorem texts_digits : ∀ (x : List UInt8), x.all isDig = true → Pch.textsL x = true
  | [], _ => rfl
  | c :: x, h => by
    rw [List.all_cons, Bool.and_eq_true] at h
    have hx := texts_digits x h.2
    have hc := of_decide_eq_true h.1
    unfold Pch.textsL at hx ⊢
    rw [low_runes c x (isDig_low h.1), List.all_cons, hx, Bool.and_true, Bool.and_eq_true]
    refine ⟨?_, (Pch.charB_iff _).2 (by omega)⟩
    simp only [Pch.okR]
    rw [Bool.not_eq_true', decide_eq_false_iff_not]
    omega
theorem good_whole (u : Nat) (h : u ≤ 9223372036854775807) : Good (2, [], (u : Int)) (Lib.itoa (u : Int)) := by
  have hP := Pdg.parse_itoa u h
  rw [Lib.itoa_nonneg] at hP ⊢
  obtain ⟨⟨h1, h2, _⟩, _, _⟩ := Pdg.dec_canon u
  generalize Lib.decDigits u = x at *
  have hA : x.all isDig = true := by rw [← h2]; congr 1; funext c; exact (dgt_isDig c).symm
  clear h2
  obtain ⟨c, y, rfl⟩ : ∃ c y, x = c :: y := by cases x with | nil => exact absurd rfl h1 | cons c y => exact ⟨c, y, rfl⟩
  have hA2 := hA
  rw [List.all_cons, Bool.and_eq_true] at hA2
  have hc := of_decide_eq_true hA2.1
  have hbl : blB c = false := by
    cases hb : blB c with
    | false => rfl
    | true => rcases blB_cases hb with rfl | rfl | rfl | rfl <;> exact absurd hc (by decide)
  refine ⟨h1, texts_digits _ hA, fun r => trim_head c _ hbl, fun b r hb => ?_, fun b r _ => com_head c _ (by rintro rfl; exact absurd hc (by decide))⟩
  have hD : isDig b = false := by rcases blB_cases hb with rfl | rfl | rfl | rfl <;> decide
  have hN : digN (c :: (y ++ b :: r)) = (c :: y).length := by
    unfold digN
    rw [← List.cons_append, takeWhile_full _ b r hA hD]
  rw [List.cons_append, tokL_cons, if_pos hA2.1]
  unfold wholeL
  rw [hN, ← List.cons_append, List.drop_left' rfl, List.take_left' rfl, hP]
  have hz : nameN (b :: r) = 0 := by
    unfold nameN
    rw [blank_runes b r hb, nameR, blank_name hb]
    rfl
  rw [hz, if_neg (by simp)]
/-! ### strings -/
theorem texts_cut34 (u : List UInt8) (c : UInt8) (r : List UInt8) (hc : c.toNat < 128) (h : Pch.textsL (u ++ c :: r) = true) : Pch.textsL u = true ∧ Pch.textsL (c :: r) = true ∧ Pch.textsL r = true := by
  have h1 := low_tail c r hc _ u (Nat.le_refl _) h
  refine ⟨?_, h1, texts_low c r hc h1⟩
  rw [← Pch.texts_right u (c :: r) h1]
  exact h
theorem dbl_texts : ∀ (x u : List UInt8), Pch.textsL (u ++ x) = true → Pch.textsL (u ++ dbl x) = true
  | [], u, h => h
  | c :: x, u, h => by
    have e : dbl (c :: x) = (if c = 34 then [34, 34] else [c]) ++ dbl x := rfl
    rw [e]
    by_cases hc : c = 34
    · subst hc
      obtain ⟨h1, _, h3⟩ := texts_cut34 u 34 x (by decide) h
      rw [if_pos rfl, ← List.append_assoc]
      refine dbl_texts x (u ++ [34, 34]) ?_
      rw [List.append_assoc, Pch.texts_left u _ h1, Pch.texts_left [34, 34] x (by decide)]
      exact h3
    · rw [if_neg hc, ← List.append_assoc]
      refine dbl_texts x (u ++ [c]) ?_
      rw [List.append_assoc]
      exact h
theorem quo_texts (q : UInt8) (hq : q = 34 ∨ q = 39) : ∀ (l : List UInt8) (y : List UInt8 × Nat) (u : List UInt8), quo q l = some y → Pch.textsL (u ++ l) = true → Pch.textsL (u ++ y.1) = true
  | [], y, u, h, _ => by simp [quo] at h
  | [c], y, u, h, ht => by
    have hlow : q.toNat < 128 := by rcases hq with rfl | rfl <;> decide
    unfold quo at h
    split at h
    · rename_i hc
      subst hc
      cases h
      have := (texts_cut34 u c [] hlow ht).1
      simpa using this
    · cases h
  | c :: d :: r, y, u, h, ht => by
    have hlow : q.toNat < 128 := by rcases hq with rfl | rfl <;> decide
    have hq1 : Pch.textsL [q] = true := by rcases hq with rfl | rfl <;> decide
    by_cases hc : c = q
    · subst hc
      obtain ⟨h1, _, h3⟩ := texts_cut34 u c (d :: r) hlow ht
      by_cases hd : d = c
      · subst hd
        rw [quo_two] at h
        obtain ⟨z, hz, rfl⟩ := Option.map_eq_some_iff.1 h
        have := quo_texts d hq r z (u ++ [d]) hz (by rw [List.append_assoc, Pch.texts_left u _ h1, Pch.texts_left [d] r hq1]; exact texts_low d r hlow h3)
        simpa using this
      · rw [quo_end c d r hd] at h
        cases h
        simpa using h1
    · rw [quo_other q c _ hc] at h
      obtain ⟨z, hz, rfl⟩ := Option.map_eq_some_iff.1 h
      have := quo_texts q hq (d :: r) z (u ++ [c]) hz (by rw [List.append_assoc]; exact ht)
      simpa using this
theorem quo_dbl (b : UInt8) (r : List UInt8) (hb : b ≠ 34) : ∀ x : List UInt8, quo 34 (dbl x ++ 34 :: b :: r) = some (x, (dbl x).length + 1)
  | [] => quo_end 34 b r hb
  | c :: x => by
    have e : dbl (c :: x) = (if c = 34 then [34, 34] else [c]) ++ dbl x := rfl
    rw [e]
    by_cases hc : c = 34
    · subst hc
      rw [if_pos rfl]
      show quo 34 (34 :: 34 :: (dbl x ++ 34 :: b :: r)) = _
      rw [quo_two, quo_dbl b r hb x]
      simp
    · rw [if_neg hc]
      show quo 34 (c :: (dbl x ++ 34 :: b :: r)) = _
      rw [quo_other 34 c _ hc, quo_dbl b r hb x]
      simp
theorem good_str (x : List UInt8) (h : Pch.textsL x = true) : Good (3, x, 0) (34 :: (dbl x ++ [34])) := by
  refine ⟨by simp, ?_, fun r => trim_head 34 _ (by decide), fun b r hb => ?_, fun b r _ => com_head 34 _ (by decide)⟩
  · have h1 := dbl_texts x [34] (by rw [Pch.texts_left [34] x (by decide)]; exact h)
    have := Pch.texts_right ([34] ++ dbl x) [34] (by decide)
    rw [← this] at h1
    simpa using h1
  · have hb34 : b ≠ 34 := by rcases blB_cases hb with rfl | rfl | rfl | rfl <;> decide
    rw [List.cons_append, List.append_assoc, List.singleton_append, tokL_cons, if_neg (by decide), if_pos (.inl rfl)]
    unfold quoL
    rw [quo_dbl b r hb34 x]
    simp
/-! ### signs -/
theorem find_two (l l' : List UInt8) (h : l.take 2 = l'.take 2) : ∀ (L : List (List UInt8)), (∀ s ∈ L, s.length ≤ 2) → L.find? (fun s => Lib.hasPrefix l s) = L.find? (fun s => Lib.hasPrefix l' s)
  | [], _ => rfl
  | a :: L, hL => by
    rw [List.find?_cons, List.find?_cons, find_two l l' h L (fun s hs => hL s (.tail _ hs)), ← prefix_take l a 2 (hL a (.head _)), ← prefix_take l' a 2 (hL a (.head _)), h]
theorem take_two (s : List UInt8) (b : UInt8) (r : List UInt8) (h : 1 ≤ s.length) : (s ++ b :: r).take 2 = (s ++ [b]).take 2 := by
  match s, h with
  | [a], _ => rfl
  | a :: a' :: s, _ => rfl
def signHead (s : List UInt8) : Bool := match s with
  | [] => false
  | c :: _ => !isDig c && decide (c ≠ 34) && decide (c ≠ 39) && decide (c ≠ 36) && !blB c && decide (c.toNat < 128) && !Pch.startB (c.toNat : Int)
theorem sign_tab : (signsL.all fun s => signHead s && Pch.textsL s && ([32, 9, 13, 10].all fun b => (signAt (s ++ [b]) == some s) && !isCom (s ++ [b]))) = true := by decide +kernel
theorem good_sign (s : List UInt8) (h : s ∈ signsL) : Good (5, s, 0) s := by
  have ht := List.all_eq_true.1 sign_tab s h
  rw [Bool.and_eq_true, Bool.and_eq_true] at ht
  obtain ⟨⟨hH, hT⟩, hB⟩ := ht
  have hl := (signs_len s h).1
  obtain ⟨c, y, rfl⟩ : ∃ c y, s = c :: y := by cases s with | nil => cases hH | cons c y => exact ⟨c, y, rfl⟩
  simp only [signHead, Bool.and_eq_true, Bool.not_eq_true', decide_eq_true_eq] at hH
  obtain ⟨⟨⟨⟨⟨⟨g1, g2⟩, g3⟩, g4⟩, g5⟩, g6⟩, g7⟩ := hH
  have key : ∀ b r, blB b = true → signAt (c :: y ++ b :: r) = some (c :: y) ∧ isCom (c :: y ++ b :: r) = false := by
    intro b r hb
    have hm : b ∈ ([32, 9, 13, 10] : List UInt8) := by
      rcases blB_cases hb with rfl | rfl | rfl | rfl <;> decide
    have := List.all_eq_true.1 hB b hm
    rw [Bool.and_eq_true, beq_iff_eq, Bool.not_eq_true'] at this
    have e := take_two (c :: y) b r hl
    constructor
    · rw [← this.1]
      exact find_two _ _ e _ fun s hs => (signs_len s hs).2
    · rw [← this.2]
      unfold isCom
      rw [← prefix_take _ _ 2 (Nat.le_refl _), e, prefix_take _ _ 2 (Nat.le_refl _)]
  refine ⟨by simp, hT, fun r => trim_head c _ g5, fun b r hb => ?_, fun b r hb => (key b r hb).2⟩
  have hS := (key b r hb).1
  rw [List.cons_append] at hS ⊢
  have hN : nameN (c :: (y ++ b :: r)) = 0 := by
    unfold nameN
    rw [low_runes c _ g6, nameR, g7]
    simp
  rw [tokL_cons, g1, if_neg (by decide), if_neg (fun e => e.elim g2 g3)]
  unfold wordL aheadN kindN
  rw [if_neg g4, if_neg g4]
  unfold wordR
  rw [List.drop_zero, hN, if_neg (by omega), if_neg (by simp)]
  unfold signR
  rw [hS]
end Go.Proofs.YtfamljigcffngaaGreatDoor.Plx
