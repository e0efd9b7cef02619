/- Plain: ParseBlanks: blanks behind a document change nothing, a comment behind it is one node more (chapter 07). -/
import Derived.Test.YtmdbjoebcolcfaaDoorParseMv
namespace Go.Proofs.YtmdbjoebcolcfaaDoor.Ppa
open Go Go.Lib Go.Proofs.YtmdbjoebcolcfaaDoor.Ptr Go.Proofs.YtmdbjoebcolcfaaDoor.Wps

theorem decodeN_low1 (n' b0 b1 b2 b3 b1' b2' b3' : Nat) (h : b1' < 128) : decodeN n' b0 b1' b2' b3' = decodeN 1 b0 b1 b2 b3 := by
  have h1 : ¬ b1' / 64 = 2 := by omega
  have h2 : ¬ 1 < 1 := by omega
  simp only [decodeN, h1, h2, false_and, and_false, if_false]
theorem decodeN_low2 (n' b0 b1 b2 b3 b2' b3' : Nat) (hn : 1 < n') (h : b2' < 128) : decodeN n' b0 b1 b2' b3' = decodeN 2 b0 b1 b2 b3 := by
  have h1 : ¬ b2' / 64 = 2 := by omega
  have h2 : ¬ 2 < 2 := by omega
  have h3 : (1 : Nat) < 2 := by omega
  simp only [decodeN, h1, h2, h3, hn, false_and, and_false, if_false]
theorem decodeN_low3 (n' b0 b1 b2 b3 b3' : Nat) (hn : 2 < n') (h : b3' < 128) : decodeN n' b0 b1 b2 b3' = decodeN 3 b0 b1 b2 b3 := by
  have h1 : ¬ b3' / 64 = 2 := by omega
  have h2 : ¬ 3 < 3 := by omega
  have h3 : (1 : Nat) < 3 := by omega
  have h4 : (2 : Nat) < 3 := by omega
  have h5 : 1 < n' := by omega
  simp only [decodeN, h1, h2, h3, h4, h5, hn, false_and, and_false, if_false]
theorem decodeN_low4 (n n' b0 b1 b2 b3 : Nat) (hn : 3 < n) (hn' : 3 < n') : decodeN n' b0 b1 b2 b3 = decodeN n b0 b1 b2 b3 := by
  have h1 : 1 < n := by omega
  have h2 : 2 < n := by omega
  have h5 : 1 < n' := by omega
  have h6 : 2 < n' := by omega
  simp only [decodeN, h1, h2, hn, h5, h6, hn']
/-- a low byte behind a character changes nothing of it, be it right or not -/
theorem decode_low (r z : Bs) (hne : r ≠ []) (hz : ∀ c t, z = c :: t → c.toNat < 128) : decodeL (r ++ z) = decodeL r := by
  have hz0 : (z.getD 0 0).toNat < 128 := by
    cases z with
    | nil => decide
    | cons c t => exact hz c t rfl
  rw [decodeL_N, decodeL_N r]
  match r, hne with
  | [a], _ => exact decodeN_low1 _ _ _ _ _ _ _ _ hz0
  | [a, b], _ => exact decodeN_low2 _ _ _ _ _ _ _ (by simp) hz0
  | [a, b, c], _ => exact decodeN_low3 _ _ _ _ _ _ (by simp) hz0
  | a :: b :: c :: d :: t, _ => exact decodeN_low4 _ _ _ _ _ _ (by simp) (by simp)
theorem wrongF_low {z : Bs} (hz : ∀ c t, z = c :: t → c.toNat < 128) : ∀ (f f' k : Nat) (r : Bs) (m : Nat), f ≤ f' → wrongF f k r = some m → wrongF f' k (r ++ z) = some m
  | 0, f', k, r, m, _, h => by cases h
  | f + 1, f', k, r, m, hf, h => by
    obtain ⟨g, rfl⟩ : ∃ g, f' = g + 1 := ⟨f' - 1, by omega⟩
    rw [wrongF] at h ⊢
    split at h
    · cases h
    · rename_i hne
      rw [if_neg (by simp [hne]), decode_low r z hne hz]
      split at h
      · rename_i hc
        rw [if_pos hc, show skip (r ++ z) = skip r ++ z by unfold skip; rw [decode_low r z hne hz, List.drop_append_of_le_length (decodeL_le r hne)]]
        exact wrongF_low hz f g _ _ m (by omega) h
      · rename_i hc
        rw [if_neg hc]
        exact h
theorem wrongL_low {z : Bs} (hz : ∀ c t, z = c :: t → c.toNat < 128) {r : Bs} {m : Nat} (h : wrongL r = some m) : wrongL (r ++ z) = some m := wrongF_low hz _ _ _ _ _ (by rw [List.length_append]; omega) h
theorem blanksL_none : ∀ (u z : Bs), blanksL u = [] → blanksL (u ++ z) = blanksL z
  | [], z, _ => rfl
  | x :: u, z, h => by
    unfold blanksL at h ⊢
    rw [List.dropWhile_cons] at h
    rw [List.cons_append, List.dropWhile_cons]
    split at h
    · rename_i e
      rw [if_pos e]
      exact blanksL_none u z h
    · cases h
/-! ### a document's text is told at once -/
theorem flush_text (s : St) (p : Int) : (flush s p).text = [] := by
  unfold flush
  split
  · rename_i h; exact h
  · rfl
theorem add_text (s : St) (n : Nd) (h : n.1 ≠ 3) : (add s n).text = [] := by
  unfold add
  simp only [if_neg h]
  exact flush_text _ _
theorem flush_none {s : St} (h : s.text = []) (p : Int) : flush s p = s := by
  unfold flush
  rw [if_pos h]
theorem add_none {s : St} (h : s.text = []) (n : Nd) : (add s n).nodes = s.nodes ++ [n] := by
  unfold add
  rw [flush_none h]
  simp
theorem add_twice (s : St) (n : Nd) : (add s n).twice = s.twice ∧ (add s n).deep = s.deep := by
  unfold add flush
  dsimp only
  repeat' split
  all_goals exact ⟨rfl, rfl⟩
theorem instr_text {p : Int} {r r' : Bs} {s s' : St} (h : instrM p r s = .ok (r', s')) : s'.text = [] := by
  unfold instrM at h
  cases hn : nameM r with
  | error r1 => rw [hn] at h; cases h
  | ok q =>
    obtain ⟨nm, r1⟩ := q
    rw [hn] at h
    dsimp only at h
    split at h
    · cases h
    · cases r1 with
      | nil => cases h
      | cons x u =>
        dsimp only at h
        split at h
        · cases hu : untilR [63, 62] (blanksL (x :: u)) with
          | error r2 => rw [hu] at h; cases h
          | ok q2 =>
            rw [hu] at h
            injection h with h
            injection h with _ h
            subst h
            exact add_text _ _ (show (6 : Nat) ≠ 3 by decide)
        · split at h
          · cases hu : mustL [63, 62] (x :: u) with
            | error r2 => rw [hu] at h; cases h
            | ok q2 =>
              rw [hu] at h
              injection h with h
              injection h with _ h
              subst h
              exact add_text _ _ (show (6 : Nat) ≠ 3 by decide)
          · cases h
theorem comm_text {p : Int} {r r' : Bs} {s s' : St} (h : commM p r s = .ok (r', s')) : s'.text = [] := by
  unfold commM at h
  cases hn : mustL [45] r with
  | error r1 => rw [hn] at h; cases h
  | ok r1 =>
    rw [hn] at h
    dsimp only at h
    cases hu : untilR [45, 45] r1 with
    | error r2 => rw [hu] at h; cases h
    | ok q =>
      obtain ⟨v, r2⟩ := q
      rw [hu] at h
      dsimp only at h
      cases hm : mustL [62] r2 with
      | error r3 => rw [hm] at h; cases h
      | ok r3 =>
        rw [hm] at h
        injection h with h
        injection h with _ h
        subst h
        exact add_text _ _ (show (5 : Nat) ≠ 3 by decide)
theorem cont_text {N : Nat} : ∀ (f : Nat) (p : Int) (d run : Nat) (r : Bs) (s : St) (r' : Bs) (s' : St), contF N f p d run r s = some (.ok (r', s')) → s'.text = []
  | 0, p, d, run, r, s, r', s', h => by unfold contF at h; cases h
  | f + 1, p, d, run, [], s, r', s', h => by
    by_cases hp : p < 0
    · rw [cont_end hp] at h
      injection h with h
      injection h with h
      injection h with _ h
      subst h
      exact flush_text _ _
    · rw [cont_lack hp] at h; cases h
  | f + 1, p, d, run, x :: u, s, r', s', h => by
    by_cases hbad : x = 62 ∧ 2 ≤ run
    · obtain ⟨rfl, hr⟩ := hbad
      rw [cont_bad hr] at h
      cases h
    · by_cases h60 : x = 60
      · subst h60
        by_cases hc : 0 ≤ p ∧ u.head? = some 47
        · obtain ⟨hp, hc⟩ := hc
          obtain ⟨v, rfl⟩ := head_cons hc
          rw [cont_close hp] at h
          injection h with h
          injection h with h
          injection h with _ h
          subst h
          exact flush_text _ _
        · rw [cont_mark hc] at h
          cases hm : markF N f p d u s with
          | none => rw [hm] at h; cases h
          | some om =>
            rw [hm] at h
            cases om with
            | error r1 => cases h
            | ok q =>
              obtain ⟨r1, s1⟩ := q
              exact cont_text f p d 0 r1 s1 r' s' h
      · by_cases h38 : x = 38
        · subst h38
          rw [cont_ref] at h
          cases hr : refM u with
          | error r1 => rw [hr] at h; cases h
          | ok q =>
            obtain ⟨n, r1⟩ := q
            rw [hr] at h
            exact cont_text f p d 0 r1 _ r' s' h
        · by_cases h13 : x = 13
          · subst h13
            rw [cont_cr] at h
            exact cont_text f p d 0 _ _ r' s' h
          · rw [cont_char hbad h60 h38 h13] at h
            exact cont_text f p d _ u _ r' s' h
theorem elem_text {N : Nat} : ∀ (f : Nat) (p : Int) (d : Nat) (r : Bs) (s : St) (r' : Bs) (s' : St), elemF N f p d r s = some (.ok (r', s')) → s'.text = []
  | 0, p, d, r, s, r', s', h => by unfold elemF at h; cases h
  | f + 1, p, d, r, s, r', s', h => by
    rw [elem_tail] at h
    cases hn : nameM r with
    | error r1 => rw [hn] at h; cases h
    | ok q =>
      obtain ⟨nm, r1⟩ := q
      rw [hn] at h
      dsimp only at h
      have hS : (elemS N p d r nm s).text = [] := add_text _ _ (show (2 : Nat) ≠ 3 by decide)
      generalize elemS N p d r nm s = S at h hS
      cases ha : attrsF N S.nodes.length.pred (f + 1) r1 S with
      | none => rw [ha] at h; cases h
      | some oA =>
        rw [ha] at h
        dsimp only at h
        cases oA with
        | error r2 => cases h
        | ok q2 =>
          obtain ⟨r2, s2⟩ := q2
          have h2 : s2.text = [] := by rw [(attrsF_ok _ _ _ _ _ ha).2.2.2.1]; exact hS
          by_cases h47 : r2.head? = some 47
          · obtain ⟨u, rfl⟩ := head_cons h47
            rw [tail_slash] at h
            cases hm : mustL [62] u with
            | error r3 => rw [hm] at h; cases h
            | ok r3 =>
              rw [hm] at h
              injection h with h
              injection h with h
              injection h with _ h
              rw [← h]
              exact h2
          · cases hm : mustL [62] r2 with
            | error r3 => rw [tail_no h47 hm] at h; cases h
            | ok r3 =>
              rw [tail_cont h47 hm] at h
              cases hc : contF N f (S.nodes.length.pred : Int) d 0 r3 s2 with
              | none => rw [hc] at h; cases h
              | some oc =>
                rw [hc] at h
                cases oc with
                | error r4 => cases h
                | ok q4 =>
                  obtain ⟨r4, s4⟩ := q4
                  injection h with h
                  cases hcl : closeM nm r4 with
                  | error r6 => rw [hcl] at h; cases h
                  | ok r6 =>
                    rw [hcl] at h
                    injection h with h
                    injection h with _ h
                    rw [← h]
                    exact cont_text f _ d 0 r3 s2 r4 s4 hc
theorem docF_text {N : Nat} : ∀ (f : Nat) (done : Bool) (r : Bs) (s s' : St), s.text = [] → docF N f done r s = some (.ok s') → s'.text = []
  | 0, done, r, s, s', _, h => by rw [docF] at h; cases h
  | f + 1, done, r, s, s', hs, h => by
    by_cases h0 : blanksL r = []
    · rw [docF_nil h0] at h
      split at h
      · injection h with h
        injection h with h
        rw [← h]
        exact hs
      · cases h
    · by_cases h60 : (blanksL r).head? = some 60
      · obtain ⟨u, hu⟩ := head_cons h60
        by_cases h63 : u.head? = some 63
        · obtain ⟨v, rfl⟩ := head_cons h63
          rw [docF_pi hu] at h
          cases hi : instrM 0 v s with
          | error r' => rw [hi] at h; cases h
          | ok q =>
            obtain ⟨r', s1⟩ := q
            rw [hi] at h
            exact docF_text f done r' s1 s' (instr_text hi) h
        · by_cases h33 : u.head? = some 33
          · obtain ⟨v, rfl⟩ := head_cons h33
            rw [docF_bang hu] at h
            cases hm : mustL [45] v with
            | error r' => rw [hm] at h; cases h
            | ok r1 =>
              rw [hm] at h
              dsimp only at h
              cases hi : commM 0 r1 s with
              | error r' => rw [hi] at h; cases h
              | ok q =>
                obtain ⟨r', s1⟩ := q
                rw [hi] at h
                exact docF_text f done r' s1 s' (comm_text hi) h
          · rw [docF_elem hu h63 h33] at h
            split at h
            · cases h
            · cases ho : elemF N f 0 1 u s with
              | none => rw [ho] at h; cases h
              | some o =>
                rw [ho] at h
                cases o with
                | error r' => cases h
                | ok q =>
                  obtain ⟨r', s1⟩ := q
                  exact docF_text f true r' s1 s' (elem_text _ _ _ _ _ _ _ ho) h
      · rw [docF_bad h0 h60] at h
        cases h
theorem docM_text {N f : Nat} {l : Bs} {s' : St} (h : docM N f l = some (.ok s')) : s'.text = [] := by
  rw [docM_eq] at h
  split at h
  · cases hd : declM (l.drop 5) with
    | error r => rw [hd] at h; cases h
    | ok r =>
      rw [hd] at h
      exact docF_text _ _ _ _ _ rfl h
  · exact docF_text _ _ _ _ _ rfl h
/-! ### what stands behind a document's element -/
theorem docF_app_ok {N : Nat} {z : Bs} {j : Nat} {G : St → St} (H : ∀ (g : Nat) (u : Bs) (s : St), blanksL u = [] → docF (N + z.length) (g + 1 + j) true (u ++ z) s = some (.ok (G s))) : ∀ (f : Nat) (done : Bool) (r : Bs) (s s' : St), Pch.textsL r = true → docF N f done r s = some (.ok s') → docF (N + z.length) (f + j) done (r ++ z) s = some (.ok (G s'))
  | 0, done, r, s, s', _, h => by rw [docF] at h; cases h
  | f + 1, done, r, s, s', ht, h => by
    by_cases h0 : blanksL r = []
    · rw [docF_nil h0] at h
      split at h
      · rename_i hd
        injection h with h
        injection h with h
        subst h
        rw [hd]
        exact H f r s h0
      · cases h
    · rw [show f + 1 + j = f + j + 1 by omega]
      have hba := blanksL_app z r h0
      have htb := blanksL_texts ht
      by_cases h60 : (blanksL r).head? = some 60
      · obtain ⟨u, hu⟩ := head_cons h60
        rw [hu] at htb
        have htu := texts_low (by decide) htb
        have hbz : blanksL (r ++ z) = 60 :: (u ++ z) := by rw [hba, hu]; rfl
        by_cases h63 : u.head? = some 63
        · obtain ⟨v, rfl⟩ := head_cons h63
          have htv := texts_low (by decide) htu
          rw [docF_pi hu] at h
          rw [docF_pi (t := v ++ z) (by rw [hbz]; rfl)]
          cases hi : instrM 0 v s with
          | error r' => rw [hi] at h; cases h
          | ok q =>
            obtain ⟨r', s1⟩ := q
            rw [hi] at h
            rw [instrM_app z htv (by rw [hi]; trivial), hi]
            exact docF_app_ok H f done r' s1 s' ((instrM_ok hi).2.2 htv) h
        · by_cases h33 : u.head? = some 33
          · obtain ⟨v, rfl⟩ := head_cons h33
            have htv := texts_low (by decide) htu
            rw [docF_bang hu] at h
            rw [docF_bang (t := v ++ z) (by rw [hbz]; rfl)]
            cases hm : mustL [45] v with
            | error r' => rw [hm] at h; cases h
            | ok r1 =>
              rw [hm] at h
              rw [mustL_app_ok z _ _ _ hm]
              dsimp only at h ⊢
              have ht1 := mustL_texts _ _ _ (by decide) htv hm
              cases hi : commM 0 r1 s with
              | error r' => rw [hi] at h; cases h
              | ok q =>
                obtain ⟨r', s1⟩ := q
                rw [hi] at h
                rw [commM_app z (by rw [hi]; trivial), hi]
                exact docF_app_ok H f done r' s1 s' ((commM_ok hi).2.2 ht1) h
          · rw [docF_elem hu h63 h33] at h
            split at h
            · cases h
            · rename_i hd
              cases ho : elemF N f 0 1 u s with
              | none => rw [ho] at h; cases h
              | some o =>
                rw [ho] at h
                cases o with
                | error r' => cases h
                | ok q =>
                  obtain ⟨r', s1⟩ := q
                  have hu0 : u ≠ [] := by
                    rintro rfl
                    cases f with
                    | zero => rw [show elemF N 0 0 1 [] s = none by unfold elemF; rfl] at ho; cases ho
                    | succ f =>
                      rw [elem_tail, show nameM [] = .error [] from rfl] at ho
                      cases ho
                  rw [docF_elem hbz (by rw [head_app z hu0]; exact h63) (by rw [head_app z hu0]; exact h33), if_neg hd]
                  rw [(kx_all N z j f).elem 0 1 u s _ htu ho trivial]
                  exact docF_app_ok H f true r' s1 s' (((kc_all N f).elem 0 1 u s r' s1 ho).2.2 htu) h
      · rw [docF_bad h0 h60] at h
        cases h
/-- a text that is a beginning of <?xml is no document -/
theorem doc_begin_ok {N f : Nat} {l : Bs} {s : St} (hl : l <+: [60, 63, 120, 109, 108]) (h : docF N f false l stR = some (.ok s)) : False := by
  have hc : l = [] ∨ l = [60] ∨ l = [60, 63] ∨ l = [60, 63, 120] ∨ l = [60, 63, 120, 109] ∨ l = [60, 63, 120, 109, 108] := by
    obtain ⟨u, hu⟩ := hl
    match l, hu with
    | [], _ => simp
    | [a], hu => injection hu with h1 _; simp [h1]
    | [a, b], hu => injection hu with h1 hu; injection hu with h2 _; simp [h1, h2]
    | [a, b, c], hu => injection hu with h1 hu; injection hu with h2 hu; injection hu with h3 _; simp [h1, h2, h3]
    | [a, b, c, d], hu => injection hu with h1 hu; injection hu with h2 hu; injection hu with h3 hu; injection hu with h4 _; simp [h1, h2, h3, h4]
    | [a, b, c, d, e], hu => injection hu with h1 hu; injection hu with h2 hu; injection hu with h3 hu; injection hu with h4 hu; injection hu with h5 _; simp [h1, h2, h3, h4, h5]
    | a :: b :: c :: d :: e :: g :: l, hu => exfalso; have := congrArg List.length hu; simp at this
  cases f with
  | zero => rw [docF] at h; cases h
  | succ f =>
    have pi : ∀ v : Bs, instrM 0 v stR = .error [] → blanksL (60 :: 63 :: v) = 60 :: 63 :: v → l = 60 :: 63 :: v → False := by
      rintro v h1 h2 rfl
      rw [docF_pi h2, h1] at h
      cases h
    rcases hc with rfl | rfl | rfl | rfl | rfl | rfl
    · rw [docF_nil rfl, if_neg (by decide)] at h
      cases h
    · rw [docF_elem (t := []) rfl (by simp) (by simp), if_neg (by decide)] at h
      cases f with
      | zero => rw [show elemF N 0 0 1 [] stR = none by unfold elemF; rfl] at h; cases h
      | succ f =>
        rw [elem_tail, show nameM [] = .error [] from rfl] at h
        cases h
    · exact pi [] rfl rfl rfl
    · exact pi [120] (by kernel_rfl) rfl rfl
    · exact pi [120, 109] (by kernel_rfl) rfl rfl
    · exact pi [120, 109, 108] (by kernel_rfl) rfl rfl
theorem docM_app_ok {N f : Nat} {z : Bs} {j : Nat} {G : St → St} (H : ∀ (g : Nat) (u : Bs) (s : St), blanksL u = [] → docF (N + z.length) (g + 1 + j) true (u ++ z) s = some (.ok (G s))) {l : Bs} {s' : St} (ht : Pch.textsL l = true) (h : docM N f l = some (.ok s')) : docM (N + z.length) (f + j) (l ++ z) = some (.ok (G s')) := by
  rw [docM_eq] at h ⊢
  by_cases hp : hasPrefix l xmlW = true
  · have hla := xml_app hp
    have h5 : 5 ≤ l.length := by rw [hla]; simp [xmlW]
    have hpz : hasPrefix (l ++ z) xmlW = true := by rw [pre_app z (show xmlW.length ≤ l.length from h5)]; exact hp
    rw [List.drop_append_of_le_length h5]
    by_cases h0 : l.drop 5 = []
    · rw [h0, if_neg (by rintro ⟨_, h⟩; cases h)] at h
      exfalso
      refine doc_begin_ok ?_ h
      rw [hla, h0]
      exact List.prefix_refl _
    · have hH : blankH (l.drop 5 ++ z) = blankH (l.drop 5) := by
        cases hd : l.drop 5 with
        | nil => exact absurd hd h0
        | cons y u => rfl
      rw [hH, hpz]
      rw [hp] at h
      split at h
      · rename_i hc
        rw [if_pos hc]
        have b := declM_app (r := l.drop 5) z
        cases hd : declM (l.drop 5) with
        | error r1 => rw [hd] at h; cases h
        | ok r1 =>
          rw [hd] at h
          rw [b.1 _ hd]
          have t5 : Pch.textsL (l.drop 5) = true := by
            rw [hla] at ht
            exact texts_lit xmlW _ (by decide) ht
          exact docF_app_ok H f false r1 stR s' ((declM_ok hd).2 t5) h
      · rename_i hc
        rw [if_neg hc]
        exact docF_app_ok H f false l stR s' ht h
  · rw [if_neg (fun h => hp h.1)] at h
    by_cases hpz : hasPrefix (l ++ z) xmlW = true
    · exfalso
      refine doc_begin_ok ?_ h
      have h1 : xmlW <+: l ++ z := List.isPrefixOf_iff_prefix.1 hpz
      rcases Nat.lt_or_ge l.length 5 with h5 | h5
      · exact List.prefix_of_prefix_length_le (List.prefix_append l z) h1 (by show l.length ≤ 5; omega)
      · exact absurd (by rw [pre_app z (show xmlW.length ≤ l.length from h5)] at hpz; exact hpz) hp
    · rw [if_neg (fun h => hpz h.1)]
      exact docF_app_ok H f false l stR s' ht h
def wsL : Bs := [32, 10, 9, 13]
def cmL : Bs := [60, 33, 45, 45, 120, 45, 45, 62]
theorem docF_ws (N g j : Nat) (u : Bs) (s : St) (h : blanksL u = []) : docF N (g + 1 + j) true (u ++ wsL) s = some (.ok s) := by
  rw [show g + 1 + j = g + j + 1 by omega, docF_nil (by rw [blanksL_none u _ h]; rfl), if_pos rfl]
theorem docF_cm (N g j : Nat) (u : Bs) (s : St) (h : blanksL u = []) : docF N (g + 1 + (j + 1)) true (u ++ cmL) s = some (.ok (add s (5, [], [120], 0))) := by
  rw [show g + 1 + (j + 1) = g + j + 1 + 1 by omega, docF_bang (t := [45, 45, 120, 45, 45, 62]) (by rw [blanksL_none u _ h]; rfl)]
  rw [show mustL [45] [45, 45, 120, 45, 45, 62] = .ok [45, 120, 45, 45, 62] from rfl]
  dsimp only
  rw [show commM 0 [45, 120, 45, 45, 62] s = .ok ([], add s (5, [], [120], 0)) from rfl]
  dsimp only
  rw [docF_nil rfl, if_pos rfl]
theorem doc_ok {s : Bs} (hl : s.length ≤ 6000) {L : List Nd} {x y : Int} (h : documentL s = (L, x, y)) (hx : x ≠ 130) : (∃ k : Nat, wrongL s = some k ∧ L = [] ∧ x = 120 ∧ y = (k : Int)) ∨ (∃ st, wrongL s = none ∧ docM s.length (fuel s.length) s = some (.ok st) ∧ (L, x, y) = toldM s.length (.ok st)) := by
  cases hw : wrongL s with
  | some k =>
    left
    rw [show documentL s = ([], 120, (k : Int)) from allM_wrong (by omega) hw] at h
    injection h with h1 h
    injection h with h2 h3
    exact ⟨k, rfl, h1.symm, h2.symm, h3.symm⟩
  | none =>
    right
    obtain ⟨o, ho⟩ := docM_some s
    rw [show documentL s = toldM s.length o from allM_told (by omega) hw ho] at h
    cases o with
    | error r =>
      exfalso
      injection h with _ h
      injection h with h _
      exact hx h.symm
    | ok st => exact ⟨st, rfl, ho, h.symm⟩
theorem doc_more {s z : Bs} {st : St} {G : St → St} (hl : s.length ≤ 6000) (hzl : z.length ≤ 100) (hz : Pch.textsL z = true) (hw : wrongL s = none) {j : Nat} (hj : fuel s.length + j = fuel (s ++ z).length) (H : ∀ (g : Nat) (u : Bs) (s' : St), blanksL u = [] → docF (s.length + z.length) (g + 1 + j) true (u ++ z) s' = some (.ok (G s'))) (h : docM s.length (fuel s.length) s = some (.ok st)) : documentL (s ++ z) = toldM (s ++ z).length (.ok (G st)) := by
  have ht := wrongL_texts hw
  have htz : Pch.textsL (s ++ z) = true := by rw [Pch.texts_left s z ht]; exact hz
  have h1 := docM_app_ok H ht h
  rw [hj, ← List.length_append] at h1
  exact allM_told (by rw [List.length_append]; omega) (wrongF_none _ _ _ htz) h1
theorem told_any (N M : Nat) (s : St) : toldM N (.ok s) = toldM M (.ok s) := rfl
theorem told_zero {N : Nat} {st : St} {L : List Nd} {y : Int} (h : (L, (0 : Int), y) = toldM N (.ok st)) : ¬ 0 ≤ st.twice ∧ ¬ 0 ≤ st.deep ∧ ¬ 16384 < st.nodes.length ∧ L = st.nodes ∧ y = 0 := by
  by_cases h1 : 0 ≤ st.twice
  · rw [told_twice h1] at h
    injection h with _ h; injection h with h; cases h
  · by_cases h2 : 0 ≤ st.deep
    · rw [told_deep h1 h2] at h
      injection h with _ h; injection h with h; cases h
    · by_cases h3 : 16384 < st.nodes.length
      · rw [told_many h1 h2 h3] at h
        injection h with _ h; injection h with h; cases h
      · rw [told_ok h1 h2 h3] at h
        injection h with h4 h; injection h with _ h
        exact ⟨h1, h2, h3, h4, h⟩
/-- ParseBlanks: blanks -/
theorem blanks_law {s : Bs} (hl : s.length ≤ 6000) {L : List Nd} {x y : Int} (h : documentL s = (L, x, y)) (hx : x ≠ 130) : documentL (s ++ wsL) = (L, x, y) := by
  rcases doc_ok hl h hx with ⟨k, hw, rfl, rfl, rfl⟩ | ⟨st, hw, hd, ht⟩
  · exact allM_wrong (by rw [List.length_append]; show ¬ 65536 < s.length + 4; omega) (wrongL_low (by rintro c t e; injection e with e; subst e; decide) hw)
  · rw [ht]
    exact doc_more (G := id) (j := 12) hl (by decide) (by decide) hw (by rw [List.length_append]; unfold fuel; show _ = 3 * (s.length + 4) + 9; omega) (fun g u s' hu => docF_ws _ g 12 u s' hu) hd
/-- ParseBlanks: a comment -/
theorem comment_law {s : Bs} (hl : s.length ≤ 6000) {L : List Nd} {y : Int} (h : documentL s = (L, 0, y)) : y = 0 ∧ (documentL (s ++ cmL) = (L ++ [(5, [], [120], 0)], 0, 0) ∨ (documentL (s ++ cmL) = ([], 3, 0) ∧ L.length = 16384)) := by
  rcases doc_ok hl h (by decide) with ⟨k, hw, _, h1, _⟩ | ⟨st, hw, hd, ht⟩
  · cases h1
  · obtain ⟨a1, a2, a3, rfl, rfl⟩ := told_zero ht
    refine ⟨rfl, ?_⟩
    have hm := doc_more (G := fun s => add s (5, [], [120], 0)) (j := 24) hl (by decide) (by decide) hw (by rw [List.length_append]; unfold fuel; show _ = 3 * (s.length + 8) + 9; omega) (fun g u s' hu => docF_cm _ g 23 u s' hu) hd
    have hn := add_none (docM_text hd) (5, [], [120], 0)
    have htw := add_twice st (5, [], [120], 0)
    rw [hm]
    by_cases h3 : 16384 < (add st (5, [], [120], 0)).nodes.length
    · right
      rw [told_many (by rw [htw.1]; exact a1) (by rw [htw.2]; exact a2) h3]
      rw [hn, List.length_append] at h3
      exact ⟨rfl, by simp at h3; omega⟩
    · left
      rw [told_ok (by rw [htw.1]; exact a1) (by rw [htw.2]; exact a2) h3, hn]
end Go.Proofs.YtmdbjoebcolcfaaDoor.Ppa
