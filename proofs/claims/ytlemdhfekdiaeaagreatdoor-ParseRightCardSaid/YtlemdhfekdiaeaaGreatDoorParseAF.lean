/- The program's Document and Fragment: what is told of any text. -/
import Derived.Test.YtlemdhfekdiaeaaGreatDoorParseAE
namespace Go.Proofs.YtlemdhfekdiaeaaGreatDoor.Ppa
open Go Go.Lib Go.Proofs.YtlemdhfekdiaeaaGreatDoor.Ptr Go.Proofs.YtlemdhfekdiaeaaGreatDoor.Wps

theorem docF_some {N : Nat} : ∀ (f : Nat) (done : Bool) (r : Bs) (s : St), 3 * r.length + 3 ≤ f → ∃ o, docF N f done r s = some o
  | 0, done, r, s, h => by omega
  | f + 1, done, r, s, h => by
    have hb := (blanksL_suf r).length_le
    by_cases h0 : blanksL r = []
    · rw [docF_nil h0]
      split <;> exact ⟨_, rfl⟩
    · by_cases h60 : (blanksL r).head? = some 60
      · obtain ⟨t, ht⟩ := head_cons h60
        rw [ht] at hb
        simp only [List.length_cons] at hb
        by_cases h63 : t.head? = some 63
        · obtain ⟨u, rfl⟩ := head_cons h63
          rw [docF_pi ht]
          simp only [List.length_cons] at hb
          cases hi : instrM 0 u s with
          | error r' => exact ⟨_, rfl⟩
          | ok q =>
            obtain ⟨r', s'⟩ := q
            have := (instrM_ok hi).1.length_le
            exact docF_some f done r' s' (by omega)
        · by_cases h33 : t.head? = some 33
          · obtain ⟨u, rfl⟩ := head_cons h33
            rw [docF_bang ht]
            simp only [List.length_cons] at hb
            cases hm : mustL [45] u with
            | error r' => exact ⟨_, rfl⟩
            | ok r1 =>
              have l1 := (mustL_suf hm).length_le
              dsimp only
              cases hi : commM 0 r1 s with
              | error r' => exact ⟨_, rfl⟩
              | ok q =>
                obtain ⟨r', s'⟩ := q
                have := (commM_ok hi).1.length_le
                exact docF_some f done r' s' (by omega)
          · rw [docF_elem ht h63 h33]
            split
            · exact ⟨_, rfl⟩
            · obtain ⟨o, ho⟩ := (kd_all N f).elem 0 1 t s (by omega)
              rw [ho]
              cases o with
              | error r' => exact ⟨_, rfl⟩
              | ok q =>
                obtain ⟨r', s'⟩ := q
                have := ((kc_all N f).elem 0 1 t s r' s' ho).1.length_le
                exact docF_some f true r' s' (by omega)
      · rw [docF_bad h0 h60]
        exact ⟨_, rfl⟩
theorem docM_eq (N f : Nat) (l : Bs) : docM N f l = if hasPrefix l xmlW = true ∧ blankH (l.drop 5) = true then (match declM (l.drop 5) with | .error r => some (.error r) | .ok r => docF N f false r stR) else docF N f false l stR := rfl
theorem docM_some (l : Bs) : ∃ o, docM l.length (fuel l.length) l = some o := by
  rw [docM_eq]
  split
  · cases hd : declM (l.drop 5) with
    | error r => exact ⟨_, rfl⟩
    | ok r =>
      have h1 := (declM_ok hd).1.length_le
      rw [List.length_drop] at h1
      exact docF_some (fuel l.length) false r stR (by unfold fuel; omega)
  · exact docF_some (fuel l.length) false l stR (by unfold fuel; omega)
theorem fragM_some (l : Bs) : ∃ o, fragM l.length (fuel l.length) l = some o := by
  unfold fragM
  obtain ⟨o, ho⟩ := (kd_all l.length (fuel l.length)).cont (-1) 0 0 l st0 (by unfold fuel; omega)
  rw [ho]
  cases o with
  | error r => exact ⟨_, rfl⟩
  | ok q => exact ⟨_, rfl⟩
theorem wrongF_texts : ∀ (f k : Nat) (r : Bs), r.length ≤ f → wrongF f k r = none → Pch.textsL r = true
  | 0, k, r, hl, _ => by
    have : r = [] := List.eq_nil_of_length_eq_zero (by omega)
    subst this
    rfl
  | f + 1, k, r, hl, h => by
    by_cases hne : r = []
    · subst hne
      rfl
    · rw [wrongF, if_neg hne] at h
      split at h
      · rename_i hc
        have hw := decodeL_width r
        have hp := List.length_pos_iff.2 hne
        have h1 := wrongF_texts f _ (skip r) (by unfold skip; rw [List.length_drop]; omega) h
        unfold Pch.textsL at h1 ⊢
        rw [Pch.runes_step r hne, List.all_cons, Bool.and_eq_true, Bool.and_eq_true]
        exact ⟨⟨hc.1, hc.2⟩, h1⟩
      · cases h
theorem wrongL_texts {l : Bs} (h : wrongL l = none) : Pch.textsL l = true := wrongF_texts l.length 0 l (Nat.le_refl _) h
theorem allM_long {way : Nat → Nat → Bs → Option (Except Bs St)} {l : Bs} (h : 65536 < l.length) : allM way l = ([], 3, 0) := by unfold allM; rw [if_pos h]
theorem allM_wrong {way : Nat → Nat → Bs → Option (Except Bs St)} {l : Bs} {k : Nat} (h : ¬ 65536 < l.length) (hw : wrongL l = some k) : allM way l = ([], 120, (k : Int)) := by unfold allM; rw [if_neg h, hw]
theorem allM_told {way : Nat → Nat → Bs → Option (Except Bs St)} {l : Bs} {o : Except Bs St} (h : ¬ 65536 < l.length) (hw : wrongL l = none) (ho : way l.length (fuel l.length) l = some o) : allM way l = toldM l.length o := by unfold allM; rw [if_neg h, hw, ho]
theorem told_twice {N : Nat} {st : St} (h : 0 ≤ st.twice) : toldM N (.ok st) = ([], 282, st.twice) := by unfold toldM; dsimp only; rw [if_pos h]
theorem told_deep {N : Nat} {st : St} (h : ¬ 0 ≤ st.twice) (h2 : 0 ≤ st.deep) : toldM N (.ok st) = ([], 131, st.deep) := by unfold toldM; dsimp only; rw [if_neg h, if_pos h2]
theorem told_many {N : Nat} {st : St} (h : ¬ 0 ≤ st.twice) (h2 : ¬ 0 ≤ st.deep) (h3 : 16384 < st.nodes.length) : toldM N (.ok st) = ([], 3, 0) := by unfold toldM; dsimp only; rw [if_neg h, if_neg h2, if_pos h3]
theorem told_ok {N : Nat} {st : St} (h : ¬ 0 ≤ st.twice) (h2 : ¬ 0 ≤ st.deep) (h3 : ¬ 16384 < st.nodes.length) : toldM N (.ok st) = (st.nodes, 0, 0) := by unfold toldM; dsimp only; rw [if_neg h, if_neg h2, if_neg h3]
end Go.Proofs.YtlemdhfekdiaeaaGreatDoor.Ppa
namespace Go.Proofs.YtlemdhfekdiaeaaGreatDoor.Wps
open Go Go.RowKit Go.Proofs.YtlemdhfekdiaeaaGreatDoor.Kb Go.Proofs.YtlemdhfekdiaeaaGreatDoor.Wch Go.Proofs.YtlemdhfekdiaeaaGreatDoor.Emk

theorem own_mono {w : World} {B B' n k : Nat} {e : TypeId} {v : Value} {xs : List Value} (h : w.ownsRow B e k v n xs) (hB : B' ≤ B) : w.ownsRow B' e k v n xs := by
  refine ⟨h.1, ?_⟩
  rcases h.2 with h0 | ⟨g, cap, cur, h1, h2, h3⟩
  · exact .inl h0
  · exact .inr ⟨g, cap, cur, h1, Nat.le_trans hB h2, h3⟩
abbrev parO (s : ByteArray) : Obj := .cells #[.string s, .int .i64 0, .slice none 0 0, .pointer none, .slice none 0 0, .int .i64 (-1), .int .i64 (-1)] 45
/-- a new parser -/
theorem par_new {s : ByteArray} {w : World} (he : Ev w) (hs : s.size ≤ 65536) : Ps w.heap.size w.heap.size s Ppa.st0 s.data.toList (w.alloc (parO s)) := by
  have hX : Px w.heap.size w.heap.size s Ppa.st0 (s.size - s.data.toList.length) none 0 (.pointer none) (.slice none 0 0) (w.alloc (parO s)) := by
    refine ⟨.inl rfl, ?_, World.ownsRow_nil _ _ _ _, World.ownsRow_nil _ _ _ _⟩
    rw [size_len, Nat.sub_self]
    exact heap_alloc_new _ _
  exact hX.ps (List.suffix_refl _) ⟨w, rfl, (Below.refl _ _).alloc (Nat.le_refl _) _, he⟩ (Nat.le_refl _) hs
theorem all_doc {B b : Nat} {s : ByteArray} {w : World} (h : Ps B b s Ppa.st0 s.data.toList w) :
    Calls Tryz.prog 19 #[.pointer (some ⟨b, 0, none⟩), .func (.func 20) #[.pointer (some ⟨b, 0, none⟩)] #[]] w fun e w' => Told B w (Ppa.documentL s.data.toList) e w' := by
  have hsm := h.small
  have hz := size_len s
  have hnl : ¬ 65536 < s.data.toList.length := by omega
  unfold Ppa.documentL
  cases hw : Ppa.wrongL s.data.toList with
  | some k =>
    rw [Ppa.allM_wrong hnl hw]
    exact all_wrong_doc h hw
  | none =>
    have ht := Ppa.wrongL_texts hw
    obtain ⟨o, ho⟩ := Ppa.docM_some s.data.toList
    rw [Ppa.allM_told hnl hw ho, hz]
    rw [hz] at ho
    cases o with
    | error r1 =>
      exact all_err_doc h ht hw ho
    | ok st =>
      by_cases h2 : 0 ≤ st.twice
      · rw [Ppa.told_twice h2]
        exact all_twice_doc h ht hw ho h2
      · by_cases h3 : 0 ≤ st.deep
        · rw [Ppa.told_deep h2 h3]
          exact all_deep_doc h ht hw ho h2 h3
        · by_cases h4 : 16384 < st.nodes.length
          · rw [Ppa.told_many h2 h3 h4]
            exact all_many_doc h ht hw ho h2 h3 h4
          · rw [Ppa.told_ok h2 h3 h4]
            exact all_ok_doc h ht hw ho h2 h3 h4
theorem all_frag {B b : Nat} {s : ByteArray} {w : World} (h : Ps B b s Ppa.st0 s.data.toList w) :
    Calls Tryz.prog 19 #[.pointer (some ⟨b, 0, none⟩), .func (.func 24) #[.pointer (some ⟨b, 0, none⟩)] #[]] w fun e w' => Told B w (Ppa.fragmentL s.data.toList) e w' := by
  have hsm := h.small
  have hz := size_len s
  have hnl : ¬ 65536 < s.data.toList.length := by omega
  unfold Ppa.fragmentL
  cases hw : Ppa.wrongL s.data.toList with
  | some k =>
    rw [Ppa.allM_wrong hnl hw]
    exact all_wrong_frag h hw
  | none =>
    have ht := Ppa.wrongL_texts hw
    obtain ⟨o, ho⟩ := Ppa.fragM_some s.data.toList
    rw [Ppa.allM_told hnl hw ho, hz]
    rw [hz] at ho
    cases o with
    | error r1 =>
      exact all_err_frag h ht hw ho
    | ok st =>
      by_cases h2 : 0 ≤ st.twice
      · rw [Ppa.told_twice h2]
        exact all_twice_frag h ht hw ho h2
      · by_cases h3 : 0 ≤ st.deep
        · rw [Ppa.told_deep h2 h3]
          exact all_deep_frag h ht hw ho h2 h3
        · by_cases h4 : 16384 < st.nodes.length
          · rw [Ppa.told_many h2 h3 h4]
            exact all_many_frag h ht hw ho h2 h3 h4
          · rw [Ppa.told_ok h2 h3 h4]
            exact all_ok_frag h ht hw ho h2 h3 h4
set_option maxRecDepth 100000 in
set_option maxHeartbeats 2000000 in
theorem document_any (s : ByteArray) (w : World) (he : Ev w) (hs : s.size ≤ 1000000) :
    Calls Tryz.prog 7 #[.string s] w fun e w' => Told w.heap.size w (Ppa.documentL s.data.toList) e w' := by
  have hb1 : Below w.heap.size w (w.alloc (.cells #[.int .i64 0, .int .i64 0] 26)) := (Below.refl _ _).alloc (Nat.le_refl _) _
  have V1 := Fv.new w
  have he1 := he.below hb1
  have hz1 : (w.alloc (.cells #[.int .i64 0, .int .i64 0] 26)).heap.size = w.heap.size + 1 := by simp
  have CA : Kept (Calls Tryz.prog 19 #[.pointer (some ⟨(w.alloc (.cells #[.int .i64 0, .int .i64 0] 26)).heap.size, 0, none⟩), .func (.func 20) #[.pointer (some ⟨(w.alloc (.cells #[.int .i64 0, .int .i64 0] 26)).heap.size, 0, none⟩)] #[]] ((w.alloc (.cells #[.int .i64 0, .int .i64 0] 26)).alloc (parO s)) fun e w' => Told (w.alloc (.cells #[.int .i64 0, .int .i64 0] 26)).heap.size ((w.alloc (.cells #[.int .i64 0, .int .i64 0] 26)).alloc (parO s)) (Ppa.documentL s.data.toList) e w') := by
    constructor
    by_cases hl : 65536 < s.size
    · have hm : Ppa.documentL s.data.toList = ([], 3, 0) := Ppa.allM_long (by rw [size_len]; exact hl)
      rw [hm]
      exact all_long (k := 0) (s := s) _ (heap_alloc_new _ _) hl hs (by simp)
    · exact all_doc (par_new he1 (by omega))
  have HB := Kept.mk hb1
  have HV := Kept.mk V1
  generalize Ppa.documentL s.data.toList = M at CA
  obtain ⟨L, x, y⟩ := M
  rw [hz1] at CA
  have hmf : ∀ (fn : Fn) (first cap : Array Value) (w : World), (Instr.makeFunc fn first cap).run Tryz.prog w = .ok (.func fn first cap) w := fun _ _ _ _ => rfl
  clear he he1 hb1 V1 hz1
  go_enter Tryz.func7, Tryz.ntmps7
  go_wp2_with (go_at_call 19; refine CA.out.mono ?_; rintro e w3 ⟨hb3, A, c, rfl, hn⟩; have B3 := Kept.mk (((HB.out.alloc (by simp) (parO s))).trans (hb3.mono (Nat.le_succ _))); have V3 := (HV.out.below ((Below.refl _ _).alloc (Nat.le_refl _) (parO s))); have V4 : Fv w.heap.size 0 0 w3 := ⟨(hb3.block _ (Nat.lt_succ_self _)).trans V3.blk⟩; have N3 := Kept.mk hn; have v0 := V4.c0; have v1 := V4.c1; have z0 := V4.unf 0; have z1 := V4.unf 1; have KV := Kept.mk V4; clear hb3 hn V3)
  refine bodyPost_ret (v := .tuple #[.slice A L.length c, .agg #[.int .i64 x, .int .i64 y]]) (by simp [results, Tryz.results7, go_sem, *]) rfl ?_
  exact ⟨(B3.out.setCell (p := ⟨w.heap.size, 0, none⟩) (Nat.le_refl _) _).setCell (p := ⟨w.heap.size, 1, none⟩) (Nat.le_refl _) _, A, c, rfl, own_mono (KV.out.nds N3.out _ _) (Nat.le_succ _)⟩
set_option maxRecDepth 100000 in
set_option maxHeartbeats 2000000 in
theorem fragment_any (s : ByteArray) (w : World) (he : Ev w) (hs : s.size ≤ 1000000) :
    Calls Tryz.prog 9 #[.string s] w fun e w' => Told w.heap.size w (Ppa.fragmentL s.data.toList) e w' := by
  have hb1 : Below w.heap.size w (w.alloc (.cells #[.int .i64 0, .int .i64 0] 26)) := (Below.refl _ _).alloc (Nat.le_refl _) _
  have V1 := Fv.new w
  have he1 := he.below hb1
  have hz1 : (w.alloc (.cells #[.int .i64 0, .int .i64 0] 26)).heap.size = w.heap.size + 1 := by simp
  have CA : Kept (Calls Tryz.prog 19 #[.pointer (some ⟨(w.alloc (.cells #[.int .i64 0, .int .i64 0] 26)).heap.size, 0, none⟩), .func (.func 24) #[.pointer (some ⟨(w.alloc (.cells #[.int .i64 0, .int .i64 0] 26)).heap.size, 0, none⟩)] #[]] ((w.alloc (.cells #[.int .i64 0, .int .i64 0] 26)).alloc (parO s)) fun e w' => Told (w.alloc (.cells #[.int .i64 0, .int .i64 0] 26)).heap.size ((w.alloc (.cells #[.int .i64 0, .int .i64 0] 26)).alloc (parO s)) (Ppa.fragmentL s.data.toList) e w') := by
    constructor
    by_cases hl : 65536 < s.size
    · have hm : Ppa.fragmentL s.data.toList = ([], 3, 0) := Ppa.allM_long (by rw [size_len]; exact hl)
      rw [hm]
      exact all_long (k := 0) (s := s) _ (heap_alloc_new _ _) hl hs (by simp)
    · exact all_frag (par_new he1 (by omega))
  have HB := Kept.mk hb1
  have HV := Kept.mk V1
  generalize Ppa.fragmentL s.data.toList = M at CA
  obtain ⟨L, x, y⟩ := M
  rw [hz1] at CA
  have hmf : ∀ (fn : Fn) (first cap : Array Value) (w : World), (Instr.makeFunc fn first cap).run Tryz.prog w = .ok (.func fn first cap) w := fun _ _ _ _ => rfl
  clear he he1 hb1 V1 hz1
  go_enter Tryz.func9, Tryz.ntmps9
  go_wp2_with (go_at_call 19; refine CA.out.mono ?_; rintro e w3 ⟨hb3, A, c, rfl, hn⟩; have B3 := Kept.mk (((HB.out.alloc (by simp) (parO s))).trans (hb3.mono (Nat.le_succ _))); have V3 := (HV.out.below ((Below.refl _ _).alloc (Nat.le_refl _) (parO s))); have V4 : Fv w.heap.size 0 0 w3 := ⟨(hb3.block _ (Nat.lt_succ_self _)).trans V3.blk⟩; have N3 := Kept.mk hn; have v0 := V4.c0; have v1 := V4.c1; have z0 := V4.unf 0; have z1 := V4.unf 1; have KV := Kept.mk V4; clear hb3 hn V3)
  refine bodyPost_ret (v := .tuple #[.slice A L.length c, .agg #[.int .i64 x, .int .i64 y]]) (by simp [results, Tryz.results9, go_sem, *]) rfl ?_
  exact ⟨(B3.out.setCell (p := ⟨w.heap.size, 0, none⟩) (Nat.le_refl _) _).setCell (p := ⟨w.heap.size, 1, none⟩) (Nat.le_refl _) _, A, c, rfl, own_mono (KV.out.nds N3.out _ _) (Nat.le_succ _)⟩
end Go.Proofs.YtlemdhfekdiaeaaGreatDoor.Wps
