/- Plain: what PrintRead asks: bytes written as a value's and as a text's are read as they were, if they are characters of texts alone (chapter 08). -/
import Derived.Test.YtemfmidhekdekaaGreatDoorPrA
namespace Go.Proofs.YtemfmidhekdekaaGreatDoor.Ppa
open Go Go.Lib Go.Proofs.YtemfmidhekdekaaGreatDoor.Ptr Go.Proofs.YtemfmidhekdekaaGreatDoor.Wps Go.Proofs.YtemfmidhekdekaaGreatDoor.Ppr

/-- <a x="..">..</a> -/
def readT (s : Bs) : Bs := [60, 97, 32, 120, 61] ++ quoL s ++ [62] ++ escL s ++ [60, 47, 97, 62]
theorem readT_eq (s : Bs) : readT s = 60 :: 97 :: 32 :: ([120] ++ 61 :: quoL s ++ (62 :: (escL s ++ [60, 47, 97, 62]))) := by unfold readT; simp
theorem read_texts {s : Bs} (h : Pch.textsL s = true) : Pch.textsL (readT s) = true := by
  unfold readT
  exact texts_two (texts_two (texts_two (texts_two (by decide) (quo_texts h)) (by decide)) (esc_texts h)) (by decide)
theorem putL_len' {h : UInt8 → Bs} (hh : ∀ c, (h c).length ≤ 6) (s : Bs) : (putL h s).length ≤ 6 * s.length := putL_len hh s
theorem readT_len (s : Bs) : (readT s).length ≤ 12 * s.length + 12 := by
  have h1 := putL_len valueC_len s
  have h2 := putL_len textC_len s
  unfold readT quoL escL
  simp only [List.length_append, List.length_cons, List.length_nil]
  omega
def readN (s : Bs) : List Nd := [(2, [97], [], -1), (3, [120], s, 0)] ++ (if s = [] then [] else [(4, [], s, 0)])
set_option maxHeartbeats 2000000 in
theorem read_ok {s : Bs} (h : Pch.textsL s = true) (hl : s.length ≤ 5000) : fragmentL (readT s) = (readN s, 0, 0) := by
  have hlen := readT_len s
  have htx := read_texts h
  obtain ⟨st, hst⟩ : ∃ st : St, st = ⟨readN s, [], -1, -1⟩ := ⟨_, rfl⟩
  have key : ∃ f, contF (readT s).length f (-1) 0 0 (readT s) st0 = some (.ok ([], st)) := by
    generalize (readT s).length = N
    rw [readT_eq]
    -- the attribute, behind the name
    obtain ⟨s1, hs1⟩ : ∃ s1 : St, s1 = ⟨[(2, [97], [], -1), (3, [120], s, 0)], [], -1, -1⟩ := ⟨_, rfl⟩
    have hbl : blanksL (32 :: ([120] ++ 61 :: quoL s ++ (62 :: (escL s ++ [60, 47, 97, 62])))) = [120] ++ 61 :: quoL s ++ (62 :: (escL s ++ [60, 47, 97, 62])) := blanks_one rfl
    have hat : attrsF N 0 2 (32 :: ([120] ++ 61 :: quoL s ++ (62 :: (escL s ++ [60, 47, 97, 62])))) ⟨[(2, [97], [], -1)], [], -1, -1⟩ = some (.ok (62 :: (escL s ++ [60, 47, 97, 62]), s1)) := by
      have hR : blankH (62 :: (escL s ++ [60, 47, 97, 62])) = false := rfl
      generalize 62 :: (escL s ++ [60, 47, 97, 62]) = R at hbl hR ⊢
      have hw := attr_write (N := N) (q := 0) (nm := [120]) (v := s) (r := R) (s := ⟨[(2, [97], [], -1)], [], -1, -1⟩) (by decide) rfl
      have hb : blankH (32 :: ([120] ++ 61 :: quoL s ++ R)) = true := rfl
      have h47 : (blanksL (32 :: ([120] ++ 61 :: quoL s ++ R))).head? ≠ some 47 := by rw [hbl]; show (some (120 : UInt8)) ≠ some 47; decide
      have h62 : (blanksL (32 :: ([120] ++ 61 :: quoL s ++ R))).head? ≠ some 62 := by rw [hbl]; show (some (120 : UInt8)) ≠ some 62; decide
      rw [attrs_more hb h47 h62, hbl, hw]
      dsimp only
      rw [hs1]
      exact attrs_stop hR
    -- the text
    have hct : CR N 0 1 (escL s ++ [60, 47, 97, 62]) s1 (.ok ([97, 62], st)) := by
      refine cr_esc s s1 ?_
      intro run
      refine ⟨1, ?_⟩
      have hfl : flush { s1 with text := s1.text ++ s } 0 = st := by
        rw [hst, hs1]
        unfold flush readN
        by_cases e : s = []
        · subst e
          rfl
        · rw [if_neg (by simpa using e), if_neg e]
          rfl
      show contF N (0 + 1) 0 1 run (60 :: 47 :: [97, 62]) _ = _
      rw [cont_close (by decide), hfl]
    obtain ⟨f, hf⟩ := hct 0
    have hel : elemF N (f + 1 + 1) (-1) (0 + 1) (97 :: 32 :: ([120] ++ 61 :: quoL s ++ (62 :: (escL s ++ [60, 47, 97, 62])))) st0 = some (.ok ([], st)) := by
      rw [elem_tail, nameM_low 97 32 _ (by decide) (by decide) (by decide) (by decide) (by decide)]
      dsimp only
      have hE : elemS N (-1) (0 + 1) (97 :: 32 :: ([120] ++ 61 :: quoL s ++ (62 :: (escL s ++ [60, 47, 97, 62])))) [97] st0 = ⟨[(2, [97], [], -1)], [], -1, -1⟩ := by
        unfold elemS
        rw [if_neg (by omega)]
        rfl
      rw [hE]
      dsimp only
      rw [show ([(2, [97], [], -1)] : List Nd).length.pred = 0 from rfl, attrs_up (g := f + 1 + 1) hat (by omega)]
      dsimp only
      rw [tail_cont (r3 := escL s ++ [60, 47, 97, 62]) (by simp) (by rw [mustL_eq]; rfl)]
      have h4 : contF N (f + 1) ((0 : Nat) : Int) (0 + 1) 0 (escL s ++ [60, 47, 97, 62]) s1 = some (.ok ([97, 62], st)) := cont_up hf (by omega)
      rw [h4]
      dsimp only
      rw [show closeM [97] [97, 62] = .ok [] from by rfl]
    refine ⟨f + 4 + 1, ?_⟩
    rw [cont_mark (fun e => absurd e.1 (by decide)), mark_elem (by simp) (by simp), elem_up (g := f + 3) hel (by omega)]
    dsimp only
    rw [show f + 4 = (f + 3) + 1 from rfl, cont_end (by decide), flush_id (by rw [hst])]
  obtain ⟨f, hf⟩ := key
  have hn : (readN s).length ≤ 3 := by
    unfold readN
    split <;> simp
  have e := frag_told_of (by omega) htx hf (by rw [hst]; show (-1 : Int) < 0; decide) (by rw [hst]; show (-1 : Int) < 0; decide) (by rw [hst]; show (readN s).length ≤ 16384; omega)
  rw [e, hst]
/-- the high bytes at the beginning of what is written are those of what was -/
theorem putL_take {h : UInt8 → Bs} (hl : ∀ c x, x ∈ h c → x.toNat < 128) (Z : Bs) : ∀ (w : Nat) (s : Bs), w ≤ (putL h s ++ 34 :: Z).length → (∀ y ∈ (putL h s ++ 34 :: Z).take w, 128 ≤ y.toNat) → w ≤ s.length ∧ (putL h s ++ 34 :: Z).take w = s.take w ∧ (putL h s ++ 34 :: Z).drop w = putL h (s.drop w) ++ 34 :: Z
  | 0, s, _, _ => ⟨Nat.zero_le _, rfl, rfl⟩
  | w + 1, [], _, hy => by
    have := hy 34 (by show (34 : UInt8) ∈ ((34 :: Z).take (w + 1)); simp)
    exact absurd this (by decide)
  | w + 1, x :: t, hle, hy => by
    rw [putL_cons] at hle hy ⊢
    by_cases hx : h x = []
    · have e : putC h x = [x] := by unfold putC; rw [if_pos hx]
      rw [e] at hle hy ⊢
      obtain ⟨a, b, c⟩ := putL_take hl Z w t (by simp at hle ⊢; omega) (fun y hy' => hy y (by
        show y ∈ (x :: (putL h t ++ 34 :: Z)).take (w + 1)
        rw [List.take_succ_cons]
        exact List.mem_cons_of_mem _ hy'))
      refine ⟨by simp; omega, ?_, ?_⟩
      · show (x :: (putL h t ++ 34 :: Z)).take (w + 1) = _
        rw [List.take_succ_cons, List.take_succ_cons, b]
      · show (x :: (putL h t ++ 34 :: Z)).drop (w + 1) = _
        rw [List.drop_succ_cons, List.drop_succ_cons, c]
    · exfalso
      have e : putC h x = h x := by unfold putC; rw [if_neg hx]
      rw [e] at hy
      obtain ⟨c, u, hcu⟩ : ∃ c u, h x = c :: u := by
        cases hh : h x with
        | nil => exact absurd hh hx
        | cons c u => exact ⟨c, u, rfl⟩
      have h1 := hl x c (by rw [hcu]; simp)
      have h2 := hy c (by rw [hcu]; simp)
      omega
theorem putL_back {h : UInt8 → Bs} (hl : ∀ c x, x ∈ h c → x.toNat < 128) (hc : ∀ c : UInt8, h c ≠ [] → c.toNat < 128 ∧ Pch.charB (c.toNat : Int) = true) (Z : Bs) : ∀ (n : Nat) (s : Bs), s.length ≤ n → Pch.textsL (putL h s ++ 34 :: Z) = true → Pch.textsL s = true
  | _, [], _, _ => rfl
  | 0, _ :: _, hn, _ => by simp at hn
  | n + 1, x :: t, hn, ht => by
    by_cases hx : h x = []
    · have e : putC h x = [x] := by unfold putC; rw [if_pos hx]
      rcases Nat.lt_or_ge x.toNat 128 with h1 | h1
      · rw [putL_cons, e] at ht
        have ht : Pch.textsL (x :: (putL h t ++ 34 :: Z)) = true := ht
        rw [texts_cons h1 (texts_char h1 ht)]
        exact putL_back hl hc Z n t (by simpa using hn) (texts_low h1 ht)
      · have hw := decodeL_width (putL h (x :: t) ++ 34 :: Z)
        have hne : putL h (x :: t) ++ 34 :: Z ≠ [] := by simp
        have hle := decodeL_le _ hne
        have hhi : ∀ y ∈ (putL h (x :: t) ++ 34 :: Z).take (decodeL (putL h (x :: t) ++ 34 :: Z)).2, 128 ≤ y.toNat := by
          have e2 : putL h (x :: t) ++ 34 :: Z = x :: (putL h t ++ 34 :: Z) := by rw [putL_cons, e]; rfl
          rw [e2] at ht ⊢
          exact char_high h1 ht
        obtain ⟨a, b, c⟩ := putL_take hl Z _ (x :: t) hle hhi
        have h2 := texts_take hne ht
        have h3 := (texts_step hne ht).2.2
        unfold skip at h3
        rw [c] at h3
        rw [b] at h2
        have h4 := putL_back hl hc Z n _ (by rw [List.length_drop]; simp at hn ⊢; omega) h3
        have := texts_two h2 h4
        rw [List.take_append_drop] at this
        exact this
    · obtain ⟨h1, h2⟩ := hc x hx
      have e : putC h x = h x := by unfold putC; rw [if_neg hx]
      rw [putL_cons, e, List.append_assoc] at ht
      rw [texts_cons h1 h2]
      exact putL_back hl hc Z n t (by simpa using hn) (texts_lit (h x) _ (hl x) ht)
theorem valueC_low (c x : UInt8) (h : x ∈ valueC c) : x.toNat < 128 := by
  unfold valueC textC at h
  have key : ∀ l : Bs, (l.all fun x => decide (x.toNat < 128)) = true → x ∈ l → x.toNat < 128 := fun l hl hx => by
    have := List.all_eq_true.1 hl x hx
    simpa using this
  split at h
  · exact key _ (by decide) h
  · split at h
    · exact key _ (by decide) h
    · split at h
      · exact key _ (by decide) h
      · split at h
        · cases h
        · split at h
          · exact key _ (by decide) h
          · split at h
            · exact key _ (by decide) h
            · split at h
              · exact key _ (by decide) h
              · cases h
theorem valueC_char (c : UInt8) (h : valueC c ≠ []) : c.toNat < 128 ∧ Pch.charB (c.toNat : Int) = true := by
  unfold valueC textC at h
  split at h
  · rename_i e; subst e; decide
  · split at h
    · rename_i e; subst e; decide
    · split at h
      · rename_i e; subst e; decide
      · split at h
        · exact absurd rfl h
        · split at h
          · rename_i e; subst e; decide
          · split at h
            · rename_i e; subst e; decide
            · split at h
              · rename_i e; subst e; decide
              · exact absurd rfl h
theorem read_no {s : Bs} (h : Pch.textsL s = false) (hl : s.length ≤ 5000) : ∃ k, fragmentL (readT s) = ([], 120, k) := by
  have hlen := readT_len s
  cases hw : wrongL (readT s) with
  | some k => exact ⟨_, allM_wrong (by omega) hw⟩
  | none =>
    exfalso
    have ht := wrongL_texts hw
    have e : readT s = [60, 97, 32, 120, 61, 34] ++ (putL valueC s ++ 34 :: (62 :: (escL s ++ [60, 47, 97, 62]))) := by unfold readT quoL; simp
    rw [e] at ht
    have := putL_back valueC_low valueC_char _ s.length s (Nat.le_refl _) (texts_lit _ _ (by decide) ht)
    rw [h] at this
    cases this
end Go.Proofs.YtemfmidhekdekaaGreatDoor.Ppa
