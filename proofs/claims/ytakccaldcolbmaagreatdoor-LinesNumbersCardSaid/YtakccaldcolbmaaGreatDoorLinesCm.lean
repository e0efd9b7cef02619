/- The walk over the program's Command (chapter 31). -/
import Derived.Test.YtakccaldcolbmaaGreatDoorLinesRg
import Derived.Test.YtakccaldcolbmaaGreatDoorLinesVal
import Derived.Maps.AppendAt
namespace Go.Proofs.YtakccaldcolbmaaGreatDoor.Wln
open Go Go.RowKit Go.Shelf Go.Proofs.YtakccaldcolbmaaGreatDoor.Kb
attribute [local go_sem] Oper.semAt_some cmdV

theorem words_any (s : ByteArray) (w : World) : Calls Tryz.prog 34 #[.string s] w fun e w' => e = .returned (.func (.func 65) #[] #[.pointer (some ⟨w.heap.size, 0, none⟩)]) ∧ w.alloc (.cells #[.string s] 9) = w' := by
  go_enter Tryz.func34, Tryz.ntmps34
  go_wp2
  go_ret
  exact ⟨rfl, rfl⟩
/-- a command and an error, stored -/
def cmdSet (W : World) (N : Nat) (a b c d e : Value) : World := ((((W.setCell ⟨N, 0, none⟩ a).setCell ⟨N, 1, none⟩ b).setCell ⟨N, 2, none⟩ c).setCell ⟨N, 3, none⟩ d).setCell ⟨N + 1, 0, none⟩ e
theorem cmd_set {W : World} {B N : Nat} {a' b' c' d' e' : Value} {ty tz : TypeId} (a b c d e : Value) (h1 : W.heap[N]? = some (.cells #[a', b', c', d'] ty (0, 0))) (h2 : W.heap[N + 1]? = some (.cells #[e'] tz (0, 0))) :
    (cmdSet W N a b c d e).heap[N]? = some (.cells #[a, b, c, d] ty (0, 0)) ∧ (cmdSet W N a b c d e).heap[N + 1]? = some (.cells #[e] tz (0, 0)) ∧ KeepsFrom B W (cmdSet W N a b c d e) ∧ (∀ j, j ≠ N → j ≠ N + 1 → (cmdSet W N a b c d e).heap[j]? = W.heap[j]?) ∧ Below N W (cmdSet W N a b c d e) := by
  have k1 := block_set (block_set (block_set (block_set h1 0 a) 1 b) 2 c) 3 d
  refine ⟨?_, ?_, ?_, ?_, ?_⟩
  · unfold cmdSet
    rw [Below.heap_setCell _ _ _ _ (by simp)]
    simpa using k1
  · unfold cmdSet
    have k2 := block_set (W := (((W.setCell ⟨N, 0, none⟩ a).setCell ⟨N, 1, none⟩ b).setCell ⟨N, 2, none⟩ c).setCell ⟨N, 3, none⟩ d) (b := N + 1) (cs := #[e']) (ty := tz) (fr := (0, 0)) (by
      rw [Below.heap_setCell _ _ _ _ (by simp), Below.heap_setCell _ _ _ _ (by simp), Below.heap_setCell _ _ _ _ (by simp), Below.heap_setCell _ _ _ _ (by simp)]
      exact h2) 0 e
    simpa using k2
  · exact (((((KeepsOthers.setCell W _ _).trans (KeepsOthers.setCell _ _ _)).trans (KeepsOthers.setCell _ _ _)).trans (KeepsOthers.setCell _ _ _)).trans (KeepsOthers.setCell _ _ _)).from _
  · intro j hj1 hj2
    unfold cmdSet
    rw [Below.heap_setCell _ _ _ _ (by simpa using hj2), Below.heap_setCell _ _ _ _ (by simpa using hj1), Below.heap_setCell _ _ _ _ (by simpa using hj1), Below.heap_setCell _ _ _ _ (by simpa using hj1), Below.heap_setCell _ _ _ _ (by simpa using hj1)]
  · exact (((((Below.refl N W).setCell (p := ⟨N, 0, none⟩) (Nat.le_refl _) _).setCell (p := ⟨N, 1, none⟩) (Nat.le_refl _) _).setCell (p := ⟨N, 2, none⟩) (Nat.le_refl _) _).setCell (p := ⟨N, 3, none⟩) (Nat.le_refl _) _).setCell (p := ⟨N + 1, 0, none⟩) (by simp) _
/-- between two rounds: the words so far -/
def CmI (w : World) (B : Nat) (T : Option (List (List UInt8))) (k : Nat) (o : Option (List (List UInt8))) (X : World) : Prop :=
  ∃ (v : Value) (M : List (List UInt8)), Boxed X (w.heap.size + 2) 29 v ∧ X.ownsRow B 9 1 v M.length (stC M) ∧ o.map (M ++ ·) = T ∧ M.length + k ≤ 65536 ∧
    X.heap[w.heap.size]? = some (.cells #[.int .u8 0, .string ⟨#[]⟩, .int .i64 0, .slice none 0 0] 40 (0, 0)) ∧ X.heap[w.heap.size + 1]? = some (.cells #[.int .i64 0] 48 (0, 0)) ∧ Below w.heap.size w X
/-- a round has returned: a word is none -/
def CmX (w : World) (T : Option (List (List UInt8))) (X : World) : Prop :=
  T = none ∧ X.heap[w.heap.size]? = some (.cells #[.int .u8 0, .string ⟨#[]⟩, .int .i64 0, .slice none 0 0] 40 (0, 0)) ∧ X.heap[w.heap.size + 1]? = some (.cells #[.int .i64 310] 48 (0, 0)) ∧ Below w.heap.size w X
theorem CmI.turn {w X Y : World} {B k : Nat} {T o : Option (List (List UInt8))} {row : Option Nat} (hB : w.heap.size + 4 ≤ B) (h : CmI w B T k o X) (hg : X.grownBy Y row) (ht : OwnTurn (w.heap.size + 1 + 1 + 1) (w.heap.size + 4) X row) : CmI w B T k o Y := by
  obtain ⟨v, M, hv, hrow, hT, hk, h1, h2, hb⟩ := h
  have far : ∀ j, j < w.heap.size + 3 → some j ≠ row := fun j hj e => by
    rcases ht j e.symm with h | ⟨h, _⟩ <;> omega
  refine ⟨v, M, hv.kept hg (far _ (by omega)), hrow.kept hg ?_, hT, hk, (hg.block _ (Array.getElem?_eq_some_iff.1 h1).1 (far _ (by omega))).trans h1, (hg.block _ (Array.getElem?_eq_some_iff.1 h2).1 (far _ (by omega))).trans h2, hb.grown hg hb.size (fun j e => ?_)⟩
  · rcases hrow.2 with ⟨rfl, _⟩ | ⟨g, cap, cur, rfl, hgB, hgb, _⟩
    · exact .inl rfl
    · refine .inr fun e => ?_
      rcases ht g (by simpa [Value.ownBlock] using e.symm) with h | ⟨_, ob, ho, hc⟩
      · omega
      · rw [hgb] at ho
        cases ho
        cases hc
  · rcases ht j e with h | ⟨h, _⟩ <;> omega
theorem CmI.mono {w X : World} {B k k' : Nat} {T o : Option (List (List UInt8))} (hk : k' ≤ k) (h : CmI w B T k o X) : CmI w B T k' o X := by
  obtain ⟨v, M, hv, hrow, hT, h0, h1⟩ := h
  exact ⟨v, M, hv, hrow, hT, by omega, h1⟩
theorem CmX.turn {w X Y : World} {B : Nat} {T : Option (List (List UInt8))} {row : Option Nat} (hB : w.heap.size + 4 ≤ B) (h : CmX w T X) (hg : X.grownBy Y row) (ht : OwnTurn (w.heap.size + 1 + 1 + 1) B X row) : CmX w T Y := by
  obtain ⟨hT, h1, h2, hb⟩ := h
  have far : ∀ j, j < w.heap.size + 3 → some j ≠ row := fun j hj e => by
    rcases ht j e.symm with h | ⟨h, _⟩ <;> omega
  refine ⟨hT, (hg.block _ (Array.getElem?_eq_some_iff.1 h1).1 (far _ (by omega))).trans h1, (hg.block _ (Array.getElem?_eq_some_iff.1 h2).1 (far _ (by omega))).trans h2, hb.grown hg hb.size (fun j e => ?_)⟩
  rcases ht j e with h | ⟨h, _⟩ <;> omega
set_option maxRecDepth 100000 in
set_option maxHeartbeats 4000000 in
theorem Command_of (s : ByteArray) (w : World) (hs : s.size ≤ 1000000)
    (hC : ∀ (W : World) (A : Option Addr) (c : Nat) (L : List (List UInt8)), RdS W A L → L.length ≤ c → L.length ≤ 65536 → (∀ x ∈ L, x.length ≤ 65536 ∧ (x.head? = some 34 → 2 ≤ x.length)) → Below w.heap.size w W → Calls Tryz.prog 35 #[.slice A L.length c] W (CmdIs W (Pln.cmdL L))) :
    Calls Tryz.prog 18 #[.string s] w (LineIs w (lineR s.data.toList)) := by
  have HC := Kept.mk hC
  clear hC
  by_cases hbig : 65536 < s.size
  · have b1 : (65536 : Int) < (s.size : Int) := by omega
    rw [show lineR s.data.toList = none from if_pos (by rw [size_len]; exact hbig)]
    clear hbig HC hs
    go_enter Tryz.func18, Tryz.ntmps18
    go_wp2
    refine bodyPost_ret (v := .tuple #[cmdV 0 [] 0 (.slice none 0 0), .int .i64 3]) (by simp [results, Tryz.results18, go_sem, cmdV]) rfl ⟨((Below.refl _ _).alloc (Nat.le_refl _) _).alloc (by simp) _, rfl⟩
  · have b1 : ¬ (65536 : Int) < (s.size : Int) := by omega
    rw [show lineR s.data.toList = some (Pln.lineL s.data.toList) from if_neg (by rw [size_len]; exact hbig)]
    have hs : s.size ≤ 65536 := by omega
    clear hbig
    refine (callsIn_wide (n := 6)).1 ?_
    refine callsIn_of_wp_marks Tryz.func18 rfl trivial ?_ rfl
    simp only [Tryz.ntmps18, List.size_toArray, List.length_cons, List.length_nil, Nat.reduceAdd, Nat.reduceSub, Array.replicate_succ, Array.replicate_zero, List.push_toArray, List.append_toArray, List.nil_append, List.cons_append]
    gi_wp2_with (first
      | (refine ⟨trivial, ?_⟩; gi_at_call 34; refine (callsIn_wide.2 (words_any s _)).mono ?_; rintro e w1 ⟨rfl, rfl⟩)
      | (gi_at_call 34; refine (callsIn_wide.2 (words_any s _)).mono ?_; rintro e w1 ⟨rfl, rfl⟩))
    have hn0 := World.alloc_heap_new w (.cells #[.int .u8 0, .string ⟨#[]⟩, .int .i64 0, .slice none 0 0] 40)
    obtain ⟨w1, hw1⟩ : ∃ w1, w.alloc (.cells #[.int .u8 0, .string ⟨#[]⟩, .int .i64 0, .slice none 0 0] 40) = w1 := ⟨_, rfl⟩
    have hs1 : w1.heap.size = w.heap.size + 1 := by rw [← hw1]; simp
    have b1 : Below w.heap.size w w1 := by rw [← hw1]; exact (Below.refl _ _).alloc (Nat.le_refl _) _
    rw [hw1] at hn0 ⊢
    have hn1 := World.alloc_heap_new w1 (.cells #[.int .i64 0] 48)
    obtain ⟨w2, hw2⟩ : ∃ w2, w1.alloc (.cells #[.int .i64 0] 48) = w2 := ⟨_, rfl⟩
    have hs2 : w2.heap.size = w.heap.size + 2 := by rw [← hw2]; simp [hs1]
    have b2 : Below w.heap.size w w2 := by rw [← hw2]; exact b1.alloc (by omega) _
    have hm0 : w2.heap[w.heap.size]? = some (.cells #[.int .u8 0, .string ⟨#[]⟩, .int .i64 0, .slice none 0 0] 40 (0, 0)) := by rw [← hw2]; exact (Below.heap_alloc _ _ _ (by omega)).trans hn0
    rw [hw2] at hn1 ⊢
    rw [hs1] at hn1
    have hn2 := Boxed.new w2 29 (.slice none 0 0)
    obtain ⟨w3, hw3⟩ : ∃ w3, w2.alloc (.cells #[.slice none 0 0] 29) = w3 := ⟨_, rfl⟩
    have hs3 : w3.heap.size = w.heap.size + 3 := by rw [← hw3]; simp [hs2]
    have b3 : Below w.heap.size w w3 := by rw [← hw3]; exact b2.alloc (by omega) _
    have hk0 : w3.heap[w.heap.size]? = some (.cells #[.int .u8 0, .string ⟨#[]⟩, .int .i64 0, .slice none 0 0] 40 (0, 0)) := by rw [← hw3]; exact (Below.heap_alloc _ _ _ (by omega)).trans hm0
    have hk1 : w3.heap[w.heap.size + 1]? = some (.cells #[.int .i64 0] 48 (0, 0)) := by rw [← hw3]; exact (Below.heap_alloc _ _ _ (by omega)).trans hn1
    rw [hw3] at hn2 ⊢
    rw [hs2] at hn2
    have hn3 := Boxed.new w3 9 (.string s)
    obtain ⟨w4, hw4⟩ : ∃ w4, w3.alloc (.cells #[.string s] 9) = w4 := ⟨_, rfl⟩
    have hs4 : w4.heap.size = w.heap.size + 4 := by rw [← hw4]; simp [hs3]
    have b4 : Below w.heap.size w w4 := by rw [← hw4]; exact b3.alloc (by omega) _
    have hj0 : w4.heap[w.heap.size]? = some (.cells #[.int .u8 0, .string ⟨#[]⟩, .int .i64 0, .slice none 0 0] 40 (0, 0)) := by rw [← hw4]; exact (Below.heap_alloc _ _ _ (by omega)).trans hk0
    have hj1 : w4.heap[w.heap.size + 1]? = some (.cells #[.int .i64 0] 48 (0, 0)) := by rw [← hw4]; exact (Below.heap_alloc _ _ _ (by omega)).trans hk1
    have hj2 : Boxed w4 (w.heap.size + 2) 29 (.slice none 0 0) := by rw [← hw4]; exact hn2.alloc _
    rw [hw4] at hn3 ⊢
    rw [hs3] at hn3
    clear hn0 hw1 hs1 b1 hn1 hw2 hs2 b2 hm0 hn2 hw3 hs3 b3 hk0 hk1 hw4
    obtain ⟨i0, hi, hz0, hz1, hz2⟩ := info_parts infoT
    refine wp_words (w.heap.size + 1 + 1 + 1) s hs hn3 (by rfl) (by rfl) (CmI w w4.heap.size (Pln.wordsL s.data.toList)) (CmX w (Pln.wordsL s.data.toList)) ?hI ?hM ?hIx ?h0 (fun x => { tmps := #[.string s, undef, .pointer (some ⟨w.heap.size, 0, none⟩), .pointer (some ⟨w.heap.size + 1, 0, none⟩), .pointer (some ⟨w.heap.size + 1 + 1, 0, none⟩), .string ⟨x.toArray⟩, undef, undef, .string s, .int .i64 (s.size : Int), .bool false, undef, .string s, .func (.func 65) #[] #[.pointer (some ⟨w.heap.size + 1 + 1 + 1, 0, none⟩)], .string ⟨x.toArray⟩, undef, undef, undef, undef, undef, undef, undef, undef, undef, undef, undef, undef, undef, undef, undef, undef], defers := ([] : List Deferred) }) ?assign ?body ?bnone ?done ?stop
    case hI => exact fun k o X Y row h hg ht => CmI.turn (by omega) h hg (by rw [hs4] at ht; exact ht)
    case hM => exact fun k k' o X hk h => CmI.mono hk h
    case hIx => exact fun X Y row h hg ht => CmX.turn (by omega) h hg ht
    case h0 => exact ⟨_, [], hj2, World.ownsRow_nil _ _ _ _, by cases Pln.wordsL s.data.toList <;> rfl, by simpa using hs, hj0, hj1, b4⟩
    case assign =>
      intro l x W K hK
      gi_wp2
      exact hK
    case body =>
      rintro l k o x X hx hX ⟨v, M, hv, hrow, hT, hk, h1, h2, hB⟩
      have hc : X.cell? ⟨w.heap.size + 1 + 1, 0, none⟩ = some v := hv.cell
      have hx1 : x.isEmpty = false := by cases x with | nil => exact absurd rfl hx | cons _ _ => rfl
      have hT2 : o.map ((M ++ [x]) ++ ·) = Pln.wordsL s.data.toList := by rw [← hT, Option.map_map]; congr 1; funext z; simp
      have hlt1 := (Array.getElem?_eq_some_iff.1 h1).1
      have hlt2 := (Array.getElem?_eq_some_iff.1 h2).1
      have HH := Kept.mk (And.intro hv (And.intro hT2 (And.intro h1 (And.intro h2 hB))))
      have HX := Kept.mk hX
      have H4 := Kept.mk hs4
      have HR := Kept.mk hrow
      clear hv hT hT2 h1 h2 hB hX hrow hn3 hj0 hj1 hj2 b4 hlt1 hlt2 hs4
      gi_wp2_with (gi_at_builtin; refine wpListIn_append_own _ rfl _ _ 29 rfl w4.heap.size 9 i0 (.string ⟨#[]⟩) 1 16 Tryz.underlying29 hi hz0 hz1 hz2 rfl (by decide) _ _ _ rfl (HR.out.alloc _) ⟨X.heap.size, 0, none⟩ 1 1 [.string ⟨x.toArray⟩] rfl rfl (cell_one_new _ _ _) (by simp [Value.oneCell']) (by unfold maxLen; omega) (by omega) (by have := HX.out; simp; omega) ?_; intro v' w5 hown' hgrow _; obtain ⟨g', cap', rfl⟩ := ownsRow_succ hown'; have hv1 : Boxed w5 (w.heap.size + 1 + 1) 29 v := (HH.out.1.alloc _).kept hgrow (HH.out.1.not_row (by decide) HR.out); have hc1 := hv1.cell; have hf1 := hv1.frozen; have HG : Kept (w5.ownsRow w4.heap.size 9 1 (.slice (some ⟨g', 0, none⟩) (M.length + 1) cap') (M.length + 1) (stC M ++ [.string ⟨x.toArray⟩]) ∧ (X.alloc (.cells #[.string ⟨x.toArray⟩] 9)).grownBy w5 v.ownBlock ∧ Boxed w5 (w.heap.size + 1 + 1) 29 v) := ⟨⟨hown', hgrow, hv1⟩⟩; clear hown' hgrow hv1)
      obtain ⟨hv, hT2, h1, h2, hB⟩ := HH.out
      obtain ⟨hown', hgrow, hv1⟩ := HG.out
      have hs4 := H4.out
      have hX := HX.out
      have far : ∀ j, j < w4.heap.size → some j ≠ v.ownBlock := fun j hj e => by
        rcases HR.out.2 with ⟨rfl, _⟩ | ⟨g, cap, cur, rfl, hg, _⟩
        · simp [Value.ownBlock] at e
        · have : j = g := by simpa [Value.ownBlock] using e
          omega
      have keep : ∀ j, j < w4.heap.size → j ≠ w.heap.size + 2 → (w5.setCell ⟨w.heap.size + 1 + 1, 0, none⟩ (.slice (some ⟨g', 0, none⟩) (M.length + 1) cap')).heap[j]? = X.heap[j]? := fun j hj hne =>
        (Below.heap_setCell _ _ _ j hne).trans ((hgrow.block j (by simp; omega) (far j hj)).trans (Below.heap_alloc _ _ _ (by omega)))
      refine ⟨?_, keep _ (by omega) (by omega), ⟨_, M ++ [x], hv1.set _, ?_, hT2, by simp; omega, (keep _ (by omega) (by omega)).trans h1, (keep _ (by omega) (by omega)).trans h2, ?_⟩⟩
      · refine ((((KeepsOthers.alloc X _).trans (KeepsOthers.of_grownBy hgrow fun j ob ej hj => ?_)).trans (KeepsOthers.setCell _ _ _))).from _
        rcases (HR.out.alloc _).2 with ⟨rfl, _⟩ | ⟨g, cap, cur, rfl, _, hgb, _⟩
        · simp [Value.ownBlock] at ej
        · obtain rfl : g = j := by simpa [Value.ownBlock] using ej
          rw [hgb] at hj
          cases hj
          rfl
      · rw [List.length_append, stC_append]
        exact hown'.kept (grownBy_setCell' w5 _ _) (.inr (hv1.not_row (by decide) hown').symm)
      · refine (((hB.alloc hB.size _).grown hgrow (by have := hB.size; simp; omega) fun j ej => ?_)).setCell (p := ⟨w.heap.size + 1 + 1, 0, none⟩) (by simp; omega) _
        have := far j
        by_cases hj : j < w4.heap.size
        · exact absurd ej.symm (this hj)
        · omega
    case bnone =>
      rintro l k X ⟨v, M, hv, hrow, hT, hk, h1, h2, hB⟩
      have e0 := cell_of_row X w.heap.size 0 _ _ _ h1
      have e1 := cell_of_row X w.heap.size 1 _ _ _ h1
      have e2 := cell_of_row X w.heap.size 2 _ _ _ h1
      have e3 := cell_of_row X w.heap.size 3 _ _ _ h1
      have e4 := cell_of_row X (w.heap.size + 1) 0 _ _ _ h2
      have f0 := fun i => frozen_of_row X w.heap.size i h1
      have f1 := fun i => frozen_of_row X (w.heap.size + 1) i h2
      gi_wp2
      have hz := cmd_set (B := w4.heap.size) (N := w.heap.size) (.int .u8 0) (.string ⟨#[]⟩) (.int .i64 0) (.slice none 0 0) (.int .i64 310) h1 h2
      exact ⟨hz.2.2.1, hT.symm, hz.1, hz.2.1, hB.trans hz.2.2.2.2⟩
    case done =>
      rintro D W hD ⟨v, M, hv, hrow, hT, hk, h1, h2, hB⟩ hK
      obtain ⟨A, c, rfl, hAc⟩ := own_shapeS hrow
      have hrd := rds_own hrow rfl
      have hc : W.cell? ⟨w.heap.size + 1 + 1, 0, none⟩ = some (.slice A M.length c) := hv.cell
      have hT : Pln.wordsL s.data.toList = some M := by rw [← hT]; simp
      have hline : Pln.lineL s.data.toList = Pln.cmdL M := by unfold Pln.lineL; rw [hT]; rfl
      have cC := callsIn_wide (n := 5).2 (HC.out W A c M hrd hAc (by omega) (fun x hx => ⟨Nat.le_trans (Pln.words_each _ _ _ (Nat.le_refl _) hT x hx).1 (by rw [size_len]; exact hs), (Pln.words_each _ _ _ (Nat.le_refl _) hT x hx).2⟩) hB)
      clear hrd hT
      have hlt1 := (Array.getElem?_eq_some_iff.1 h1).1
      have hlt2 := (Array.getElem?_eq_some_iff.1 h2).1
      cases hcm : Pln.cmdL M with
      | none =>
        rw [hcm] at cC
        have CC := Kept.mk cC
        have HLN := Kept.mk (hline.trans hcm)
        clear cC hcm hline
        gi_wp2_with (first
          | (refine ⟨trivial, ?_⟩; gi_at_call 35; refine CC.out.mono ?_; rintro e w6 ⟨hb6, k', t', n', A', m', c', rfl⟩; have l6 : w.heap.size < w6.heap.size := Nat.lt_of_lt_of_le hlt1 hb6.size; have l7 : w.heap.size + 1 < w6.heap.size := Nat.lt_of_lt_of_le hlt2 hb6.size; have h16 := (hb6.block _ hlt1).trans h1; have h26 := (hb6.block _ hlt2).trans h2; have e0 := cell_of_row w6 w.heap.size 0 _ _ _ h16; have e1 := cell_of_row w6 w.heap.size 1 _ _ _ h16; have e2 := cell_of_row w6 w.heap.size 2 _ _ _ h16; have e3 := cell_of_row w6 w.heap.size 3 _ _ _ h16; have e4 := cell_of_row w6 (w.heap.size + 1) 0 _ _ _ h26; have f0 := fun i => frozen_of_row w6 w.heap.size i h16; have f1 := fun i => frozen_of_row w6 (w.heap.size + 1) i h26; have H6 := Kept.mk (And.intro h16 (And.intro h26 hb6)); clear h16 h26 hb6)
          | (gi_at_call 35; refine CC.out.mono ?_; rintro e w6 ⟨hb6, k', t', n', A', m', c', rfl⟩; have l6 : w.heap.size < w6.heap.size := Nat.lt_of_lt_of_le hlt1 hb6.size; have l7 : w.heap.size + 1 < w6.heap.size := Nat.lt_of_lt_of_le hlt2 hb6.size; have h16 := (hb6.block _ hlt1).trans h1; have h26 := (hb6.block _ hlt2).trans h2; have e0 := cell_of_row w6 w.heap.size 0 _ _ _ h16; have e1 := cell_of_row w6 w.heap.size 1 _ _ _ h16; have e2 := cell_of_row w6 w.heap.size 2 _ _ _ h16; have e3 := cell_of_row w6 w.heap.size 3 _ _ _ h16; have e4 := cell_of_row w6 (w.heap.size + 1) 0 _ _ _ h26; have f0 := fun i => frozen_of_row w6 w.heap.size i h16; have f1 := fun i => frozen_of_row w6 (w.heap.size + 1) i h26; have H6 := Kept.mk (And.intro h16 (And.intro h26 hb6)); clear h16 h26 hb6))
        obtain ⟨h16, h26, hb6⟩ := H6.out
        have hsz6 := hb6.size
        have hz := cmd_set (B := w4.heap.size) (N := w.heap.size) (.int .u8 0) (.string ⟨#[]⟩) (.int .i64 0) (.slice none 0 0) (.int .i64 310) h16 h26
        have hzs := hz.2.2.2.2.size
        have hDW : D < W.heap.size := (Array.getElem?_eq_some_iff.1 hK).1
        have hK6 := (Below.heap_alloc _ (.cells #[.int .u8 k', .string ⟨t'.toArray⟩, .int .i64 n', .slice A' m' c'] 40) D (by omega)).trans ((hz.2.2.2.1 D (by omega) (by omega)).trans ((hb6.block D hDW).trans hK))
        have hBz := ((hB.trans (hb6.mono hB.size)).trans hz.2.2.2.2).alloc (by omega) (.cells #[.int .u8 k', .string ⟨t'.toArray⟩, .int .i64 n', .slice A' m' c'] 40)
        have q1 := (World.putObj_heap_other (r := D) (o := .deferred none) (by omega)).trans ((Below.heap_alloc _ (.cells #[.int .u8 k', .string ⟨t'.toArray⟩, .int .i64 n', .slice A' m' c'] 40) _ (by omega)).trans hz.1)
        have q2 := (World.putObj_heap_other (r := D) (o := .deferred none) (by omega)).trans ((Below.heap_alloc _ (.cells #[.int .u8 k', .string ⟨t'.toArray⟩, .int .i64 n', .slice A' m' c'] 40) _ (by omega)).trans hz.2.1)
        have hBq := belowK_b (w := w) (Nat.le_refl _) _ D _ (.deferred none) (by omega) hK6 rfl rfl
        unfold cmdSet at hK6 q1 q2 hBz hBq
        have r0 := cell_of_row _ w.heap.size 0 _ _ _ q1
        have r1 := cell_of_row _ w.heap.size 1 _ _ _ q1
        have r2 := cell_of_row _ w.heap.size 2 _ _ _ q1
        have r3 := cell_of_row _ w.heap.size 3 _ _ _ q1
        have r4 := cell_of_row _ (w.heap.size + 1) 0 _ _ _ q2
        refine ⟨by simp, .inl ⟨_, _, rfl, run_takeDeferred hK6, ?_⟩⟩
        refine ⟨.tuple #[cmdV 0 [] 0 (.slice none 0 0), .int .i64 310], ?_, hBz.trans hBq, by rw [HLN.out]⟩
        simp [results, Tryz.results18, go_sem, cmdV, r0, r1, r2, r3, r4]
      | some cm =>
        obtain ⟨k', t', n', F'⟩ := cm
        rw [hcm] at cC
        have CC := Kept.mk cC
        have HLN := Kept.mk (hline.trans hcm)
        clear cC hcm hline
        gi_wp2_with (first
          | (refine ⟨trivial, ?_⟩; gi_at_call 35; refine CC.out.mono ?_; rintro e w6 ⟨hb6, A', c', rfl, hF6⟩; have l6 : w.heap.size < w6.heap.size := Nat.lt_of_lt_of_le hlt1 hb6.size; have l7 : w.heap.size + 1 < w6.heap.size := Nat.lt_of_lt_of_le hlt2 hb6.size; have h16 := (hb6.block _ hlt1).trans h1; have h26 := (hb6.block _ hlt2).trans h2; have e0 := cell_of_row w6 w.heap.size 0 _ _ _ h16; have e1 := cell_of_row w6 w.heap.size 1 _ _ _ h16; have e2 := cell_of_row w6 w.heap.size 2 _ _ _ h16; have e3 := cell_of_row w6 w.heap.size 3 _ _ _ h16; have e4 := cell_of_row w6 (w.heap.size + 1) 0 _ _ _ h26; have f0 := fun i => frozen_of_row w6 w.heap.size i h16; have f1 := fun i => frozen_of_row w6 (w.heap.size + 1) i h26; have H6 := Kept.mk (And.intro h16 (And.intro h26 hb6)); have HF := Kept.mk hF6; clear h16 h26 hb6 hF6)
          | (gi_at_call 35; refine CC.out.mono ?_; rintro e w6 ⟨hb6, A', c', rfl, hF6⟩; have l6 : w.heap.size < w6.heap.size := Nat.lt_of_lt_of_le hlt1 hb6.size; have l7 : w.heap.size + 1 < w6.heap.size := Nat.lt_of_lt_of_le hlt2 hb6.size; have h16 := (hb6.block _ hlt1).trans h1; have h26 := (hb6.block _ hlt2).trans h2; have e0 := cell_of_row w6 w.heap.size 0 _ _ _ h16; have e1 := cell_of_row w6 w.heap.size 1 _ _ _ h16; have e2 := cell_of_row w6 w.heap.size 2 _ _ _ h16; have e3 := cell_of_row w6 w.heap.size 3 _ _ _ h16; have e4 := cell_of_row w6 (w.heap.size + 1) 0 _ _ _ h26; have f0 := fun i => frozen_of_row w6 w.heap.size i h16; have f1 := fun i => frozen_of_row w6 (w.heap.size + 1) i h26; have H6 := Kept.mk (And.intro h16 (And.intro h26 hb6)); have HF := Kept.mk hF6; clear h16 h26 hb6 hF6))
        obtain ⟨h16, h26, hb6⟩ := H6.out
        have hsz6 := hb6.size
        have hz := cmd_set (B := w4.heap.size) (N := w.heap.size) (.int .u8 (k' : Int)) (.string ⟨t'.toArray⟩) (.int .i64 n') (.slice A' F'.length c') (.int .i64 0) h16 h26
        have hzs := hz.2.2.2.2.size
        have hDW : D < W.heap.size := (Array.getElem?_eq_some_iff.1 hK).1
        have hK6 := (Below.heap_alloc _ (.cells #[.int .u8 (k' : Int), .string ⟨t'.toArray⟩, .int .i64 n', .slice A' F'.length c'] 40) D (by omega)).trans ((hz.2.2.2.1 D (by omega) (by omega)).trans ((hb6.block D hDW).trans hK))
        have hBz := ((hB.trans (hb6.mono hB.size)).trans hz.2.2.2.2).alloc (by omega) (.cells #[.int .u8 (k' : Int), .string ⟨t'.toArray⟩, .int .i64 n', .slice A' F'.length c'] 40)
        have q1 := (World.putObj_heap_other (r := D) (o := .deferred none) (by omega)).trans ((Below.heap_alloc _ (.cells #[.int .u8 (k' : Int), .string ⟨t'.toArray⟩, .int .i64 n', .slice A' F'.length c'] 40) _ (by omega)).trans hz.1)
        have q2 := (World.putObj_heap_other (r := D) (o := .deferred none) (by omega)).trans ((Below.heap_alloc _ (.cells #[.int .u8 (k' : Int), .string ⟨t'.toArray⟩, .int .i64 n', .slice A' F'.length c'] 40) _ (by omega)).trans hz.2.1)
        have hBq := belowK_b (w := w) (Nat.le_refl _) _ D _ (.deferred none) (by omega) hK6 rfl rfl
        unfold cmdSet at hK6 q1 q2 hBz hBq
        have r0 := cell_of_row _ w.heap.size 0 _ _ _ q1
        have r1 := cell_of_row _ w.heap.size 1 _ _ _ q1
        have r2 := cell_of_row _ w.heap.size 2 _ _ _ q1
        have r3 := cell_of_row _ w.heap.size 3 _ _ _ q1
        have r4 := cell_of_row _ (w.heap.size + 1) 0 _ _ _ q2
        refine ⟨by simp, .inl ⟨_, _, rfl, run_takeDeferred hK6, ?_⟩⟩
        refine ⟨.tuple #[cmdV k' t' n' (.slice A' F'.length c'), .int .i64 0], ?_, hBz.trans hBq, ?_⟩
        · simp [results, Tryz.results18, go_sem, cmdV, r0, r1, r2, r3, r4]
        · rw [HLN.out]
          refine ⟨A', c', rfl, own_base (own_far HF.out fun g hg hlt => ?_) hB.size⟩
          exact (World.putObj_heap_other (by omega)).trans ((Below.heap_alloc _ _ _ (Nat.lt_of_lt_of_le hlt hzs)).trans (hz.2.2.2.1 g (by omega) (by omega)))
    case stop =>
      rintro D W hD ⟨hT, h1, h2, hB⟩ hK
      have q1 := (World.putObj_heap_other (w := W) (r := D) (o := .deferred none) (by omega)).trans h1
      have q2 := (World.putObj_heap_other (w := W) (r := D) (o := .deferred none) (by omega)).trans h2
      have r0 := cell_of_row _ w.heap.size 0 _ _ _ q1
      have r1 := cell_of_row _ w.heap.size 1 _ _ _ q1
      have r2 := cell_of_row _ w.heap.size 2 _ _ _ q1
      have r3 := cell_of_row _ w.heap.size 3 _ _ _ q1
      have r4 := cell_of_row _ (w.heap.size + 1) 0 _ _ _ q2
      have hline : Pln.lineL s.data.toList = none := by unfold Pln.lineL; rw [hT]; rfl
      have HLN := Kept.mk hline
      clear hline
      gi_wp2
      refine ⟨by simp, .inl ⟨_, _, rfl, run_takeDeferred hK, ?_⟩⟩
      refine ⟨.tuple #[cmdV 0 [] 0 (.slice none 0 0), .int .i64 310], ?_, hB.trans (belowK_b (w := w) (Nat.le_refl _) W D _ _ (by omega) hK rfl rfl), by rw [HLN.out]⟩
      simp [results, Tryz.results18, go_sem, cmdV, r0, r1, r2, r3, r4]
end Go.Proofs.YtakccaldcolbmaaGreatDoor.Wln
