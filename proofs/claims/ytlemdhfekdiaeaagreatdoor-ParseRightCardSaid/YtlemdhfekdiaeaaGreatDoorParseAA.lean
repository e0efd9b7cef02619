/- The program's parser: contents, at any fuel; a quoted word of a declaration. -/
import Derived.Test.YtlemdhfekdiaeaaGreatDoorParseZ
namespace Go.Proofs.YtlemdhfekdiaeaaGreatDoor.Wps
open Go Go.RowKit Go.Proofs.YtlemdhfekdiaeaaGreatDoor.Kb Go.Proofs.YtlemdhfekdiaeaaGreatDoor.Wch Go.Proofs.YtlemdhfekdiaeaaGreatDoor.Emk

theorem both_s (B b : Nat) (s : ByteArray) (n : Nat) : ContC B b s n ∧ MarkC B b s n := by
  induction n using Nat.strongRecOn with
  | ind n ih =>
    refine ⟨content_s (fun g hg => (ih g hg).2), ?_⟩
    cases n with
    | zero =>
      intro p d st r w o _ _ _ _ _ he
      unfold Ppa.markF at he
      cases he
    | succ f => exact markup_s (fun g hg => (ih g (by omega)).1)
theorem quotG_eq {c : UInt8} {u : Ppa.Bs} {x : UInt8} {t : Ppa.Bs} (h : x = c ∨ (97 ≤ c ∧ x = c - 32)) : Ppa.quotG (c :: u) (x :: t) = Ppa.quotG u t := by
  rw [Ppa.quotG, if_pos h]
theorem quotG_ne {c : UInt8} {u r : Ppa.Bs} (h : ∀ x t, r = x :: t → ¬ (x = c ∨ (97 ≤ c ∧ x = c - 32))) : Ppa.quotG (c :: u) r = .error r := by
  cases r with
  | nil => rfl
  | cons x t => rw [Ppa.quotG, if_neg (h x t rfl)]
/-- the same for the character that stands next -/
theorem quot_peek {c : UInt8} (hc : c.toNat < 128) (r : Ppa.Bs) : (Ppa.peek r = (c.toNat : Int) ∨ (97 ≤ (c.toNat : Int) ∧ Ppa.peek r = (c.toNat : Int) - 97 + 65)) ↔ ∃ x t, r = x :: t ∧ (x = c ∨ (97 ≤ c ∧ x = c - 32)) := by
  cases r with
  | nil =>
    constructor
    · intro h
      exfalso
      simp [Ppa.peek] at h
      omega
    · rintro ⟨x, t, h, _⟩
      cases h
  | cons y u =>
    constructor
    · intro h
      refine ⟨y, u, rfl, ?_⟩
      rcases Nat.lt_or_ge y.toNat 128 with hy | hy
      · rw [peek_low y u hy] at h
        rcases h with h | ⟨h1, h2⟩
        · exact .inl (UInt8.toNat_inj.1 (by omega))
        · refine .inr ⟨by rw [UInt8.le_iff_toNat_le]; show 97 ≤ c.toNat; omega, UInt8.toNat_inj.1 ?_⟩
          rw [UInt8.toNat_sub_of_le _ _ (by rw [UInt8.le_iff_toNat_le]; show 32 ≤ c.toNat; omega)]
          show y.toNat = c.toNat - 32
          omega
      · have := peek_high y u hy
        exfalso
        omega
    · rintro ⟨x, t, h, h2⟩
      injection h with h h3
      subst h h3
      rcases h2 with rfl | ⟨h2, h3⟩
      · exact .inl (peek_low y u hc)
      · have h4 : 97 ≤ c.toNat := by rw [UInt8.le_iff_toNat_le] at h2; exact h2
        have h5 : y.toNat = c.toNat - 32 := by rw [h3, UInt8.toNat_sub_of_le _ _ (by rw [UInt8.le_iff_toNat_le]; show 32 ≤ c.toNat; omega)]; rfl
        exact .inr ⟨by omega, by rw [peek_low y u (by omega)]; omega⟩
theorem quotM_none {a r1 r : Ppa.Bs} (h : Ppa.mustL [61] (Ppa.blanksL r) = .ok r1) (h1 : (Ppa.blanksL r1).head? ≠ some 34) (h2 : (Ppa.blanksL r1).head? ≠ some 39) : Ppa.quotM a r = .error (Ppa.blanksL r1) := by
  unfold Ppa.quotM
  rw [h]
  dsimp only
  generalize Ppa.blanksL r1 = z at h1 h2
  cases z with
  | nil => rfl
  | cons x t =>
    dsimp only
    rw [if_neg]
    rintro (rfl | rfl)
    · exact h1 rfl
    · exact h2 rfl
/-- a quoted word, and the quote behind it -/
def quotE (q : UInt8) (a t : Ppa.Bs) : Except Ppa.Bs Ppa.Bs := match Ppa.quotG a t with
  | .error r2 => .error r2
  | .ok r2 => Ppa.mustL [q] r2
theorem quotE_eq {q c : UInt8} {u : Ppa.Bs} {x : UInt8} {t : Ppa.Bs} (h : x = c ∨ (97 ≤ c ∧ x = c - 32)) : quotE q (c :: u) (x :: t) = quotE q u t := by unfold quotE; rw [quotG_eq h]
theorem quotE_ne {q c : UInt8} {u r : Ppa.Bs} (h : ∀ x t, r = x :: t → ¬ (x = c ∨ (97 ≤ c ∧ x = c - 32))) : quotE q (c :: u) r = .error r := by unfold quotE; rw [quotG_ne h]
theorem quotM_some {a r1 r t : Ppa.Bs} {q : UInt8} (h : Ppa.mustL [61] (Ppa.blanksL r) = .ok r1) (h1 : Ppa.blanksL r1 = q :: t) (hq : q = 34 ∨ q = 39) : Ppa.quotM a r = quotE q a t := by
  unfold Ppa.quotM quotE
  rw [h]
  dsimp only
  rw [h1]
  dsimp only
  rw [if_pos hq]
  rfl
set_option maxRecDepth 100000 in
theorem quoted_eq {B b : Nat} {s : ByteArray} {x : List Value} {r r1 : Ppa.Bs} {w : World} (a : ByteArray) (h : Pa B b s x r w) (h1 : Ppa.mustL [61] (Ppa.blanksL r) = .error r1) :
    Calls Tryz.prog 75 #[.pointer (some ⟨b, 0, none⟩), .string a] w fun e w' => Ways B b s x w (.tuple #[]) (.error r1) e w' := by
  have K1 := Kept.mk h1
  clear h1
  go_enter Tryz.func75, Tryz.ntmps75
  go_wp2_with (first | (go_at_call 39; refine (blanks_r h).mono ?_; rintro e w1 ⟨rfl, H1, hg1⟩; have G1 := Kept.mk hg1; clear hg1) | (go_at_call 40; refine (must_no [61] (by decide) H1 K1.out).mono ?_; rintro e w2 ⟨rfl, hl2, hg2⟩; have G2 := Kept.mk (G1.out.trans hg2); clear hg2))
  exact ⟨rfl, G2.out, rfl, hl2⟩
set_option maxRecDepth 100000 in
theorem quoted_none {B b : Nat} {s : ByteArray} {x : List Value} {r r1 : Ppa.Bs} {w : World} (a : ByteArray) (h : Pa B b s x r w) (h1 : Ppa.mustL [61] (Ppa.blanksL r) = .ok r1) (h2 : (Ppa.blanksL r1).head? ≠ some 34) (h3 : (Ppa.blanksL r1).head? ≠ some 39) :
    Calls Tryz.prog 75 #[.pointer (some ⟨b, 0, none⟩), .string a] w fun e w' => Ways B b s x w (.tuple #[]) (.error (Ppa.blanksL r1)) e w' := by
  have K1 := Kept.mk h1
  have p1 : ¬ Ppa.peek (Ppa.blanksL r1) = 34 := fun e => h2 ((peek_is 34 (by decide) _).1 e)
  have p2 : ¬ Ppa.peek (Ppa.blanksL r1) = 39 := fun e => h3 ((peek_is 39 (by decide) _).1 e)
  have q1 : (Ppa.peek (Ppa.blanksL r1) != 34) = true := by simpa using p1
  have q2 : (Ppa.peek (Ppa.blanksL r1) != 39) = true := by simpa using p2
  have TG0 : Kept True := ⟨trivial⟩
  clear h1 h2 h3
  go_enter Tryz.func75, Tryz.ntmps75
  go_wp2_with (first | (go_at_call 39; clear TG0; refine (blanks_r h).mono ?_; rintro e w1 ⟨rfl, H1, hg1⟩; have G1 := Kept.mk hg1; clear hg1) | (go_at_call 40; refine (must_ok [61] (by decide) H1 K1.out).mono ?_; rintro e w2 ⟨rfl, H2, hg2⟩; have G2 := Kept.mk (G1.out.trans hg2); clear hg2) | (go_at_call 39; refine (blanks_r H2).mono ?_; rintro e w3 ⟨rfl, H3, hg3⟩; have G3 := Kept.mk (G2.out.trans hg3); clear hg3) | (go_at_call 77; refine (peek_r H3).mono ?_; rintro e w4 ⟨rfl, hb4⟩; have H4 := H3.below hb4; have G4 := Kept.mk (G3.out.trans (grown_of_below hb4 (some b))); clear hb4) | (go_at_call 44; refine (no_r H4).mono ?_; rintro e w5 ⟨rfl, rfl⟩))
  exact ⟨rfl, G4.out, rfl, H4.len⟩
theorem grown_iter2 {w w' : World} {b k : Nat} (h : w.grownBy w' (some b)) (a : ByteArray) (pos : Nat) (hk : w.heap.size ≤ k) : w.grownBy (w'.iterAt k a pos) (some b) :=
  ⟨h.os, h.tape, h.output, by rw [Lib.iterAt_size]; exact h.size, fun j hj hne => (Lib.iterAt_other w' k j a pos (by omega)).trans (h.block j hj hne)⟩
set_option maxRecDepth 100000 in
set_option maxHeartbeats 4000000 in
theorem quoted_34 {B b : Nat} {s : ByteArray} {x : List Value} {r r1 t : Ppa.Bs} {w : World} (a : ByteArray) (ha : ∀ c ∈ a.data.toList, c.toNat < 128) (h : Pa B b s x r w) (h1 : Ppa.mustL [61] (Ppa.blanksL r) = .ok r1) (h2 : Ppa.blanksL r1 = 34 :: t) :
    Calls Tryz.prog 75 #[.pointer (some ⟨b, 0, none⟩), .string a] w fun e w' => Ways B b s x w (.tuple #[]) (quotE 34 a.data.toList t) e w' := by
  have hlt := h.row.lt
  have hB0 : B ≤ w.heap.size := h.ev.le
  have hsm := h.small
  generalize hT : (quotE 34 a.data.toList t) = T
  have K1 := Kept.mk h1
  have K2 := Kept.mk h2
  have HT : Kept (Ppa.blanksL r1 = 34 :: t → (quotE 34 (a.data.toList.drop 0) t) = T) := ⟨fun _ => hT⟩
  have HP : Kept (Ppa.peek (34 :: t) = 34) := ⟨(peek_is 34 (by decide) _).2 rfl⟩
  have TG0 : Kept True := ⟨trivial⟩
  clear h1 h2 hT
  go_enter Tryz.func75, Tryz.ntmps75
  go_wp2_with (first | (go_at_call 39; clear TG0; refine (blanks_r h).mono ?_; rintro e w1 ⟨rfl, H1, hg1⟩; have G1 := Kept.mk hg1; clear hg1) | (go_at_call 40; refine (must_ok [61] (by decide) H1 K1.out).mono ?_; rintro e w2 ⟨rfl, H2, hg2⟩; have G2 := Kept.mk (G1.out.trans hg2); clear hg2) | (go_at_call 39; refine (blanks_r H2).mono ?_; rintro e w3 ⟨rfl, H3, hg3⟩; rw [K2.out] at H3; have G3 := Kept.mk (G2.out.trans hg3); clear hg3) | (go_at_call 77; refine (peek_r H3).mono ?_; rintro e w4 ⟨rfl, hb4⟩; rw [HP.out]; have H4 := H3.below hb4; have G4 := Kept.mk (G3.out.trans (grown_of_below hb4 (some b))); clear hb4; obtain ⟨k, hk, c1⟩ := H4.cell; have f1 := H4.row.unf 1; have k0 : (0 : Int) ≤ (k : Int) := (by omega); have k1 : (k : Int) ≤ 65536 := (by omega); have H5 := H4.put (r' := t) ((List.suffix_cons _ _).trans H4.suf) (v := (k : Int) + 1) (by simp at hk ⊢; omega); have G5 := Kept.mk (grown_set G4.out 1 (.int .i64 ((k : Int) + 1)))))
  obtain ⟨W0, hW0⟩ : ∃ W, w4.setCell ⟨b, 1, none⟩ (.int .i64 ((k : Int) + 1)) = W := ⟨_, rfl⟩
  have hz0 : w4.heap.size = W0.heap.size := by rw [← hW0]; simp
  rw [hW0] at H5 G5
  simp only [hW0, hz0]
  have hbW : b < W0.heap.size := H5.row.lt
  have hBW : B ≤ W0.heap.size := H5.ev.le
  have HT2 := Kept.mk (HT.out K2.out)
  have hwW : w.heap.size ≤ W0.heap.size := G5.out.size
  clear H1 H2 H3 H4 c1 f1 hk k0 k1 HP K1 K2 HT hW0 hz0
  go_loopg [6, 7] a.size (fun g _ _ wx => ∃ (pos : Nat) (r' : Ppa.Bs), wx.heap[W0.heap.size]? = some (.stringIter a pos) ∧ Pa B b s x r' wx ∧ Kept (w.grownBy wx (some b)) ∧ Kept (quotE 34 (a.data.toList.drop pos) r' = T) ∧ a.size ≤ pos + g)
  case atStart => exact ⟨0, t, World.iter_heap W0 a 0, H5.below ((Below.refl _ W0).alloc (Nat.le_refl _) _), ⟨G5.out.trans (grown_of_below ((Below.refl _ W0).alloc (Nat.le_refl _) _) _)⟩, HT2, by omega⟩
  case round =>
    obtain ⟨pos, r', hit, hP, G, HE, hle⟩ := hrel
    have hsz : W0.heap.size < wr.heap.size := (Array.getElem?_eq_some_iff.1 hit).1
    clear H5 G5 HT2 h
    by_cases hp : pos < a.size
    · obtain ⟨g, rfl⟩ : ∃ g, gk = g + 1 := ⟨gk - 1, by omega⟩
      obtain ⟨c, hc, hdr, hdec⟩ := low_at a ha pos hp
      have hnx : ∀ ty, (Instr.next (.pointer (some ⟨W0.heap.size, 0, none⟩)) true ty).run Tryz.prog wr = _ := fun ty => Lib.run_next_any_at wr W0.heap.size a pos ty hit hp
      rw [hdec] at hnx
      have hit2 := Lib.iterAt_heap wr W0.heap.size a pos (pos + 1) hit
      have hP2 := hP.iter (k := W0.heap.size) hBW (by omega) a (pos + 1)
      have hG2 : w.grownBy (wr.iterAt W0.heap.size a (pos + 1)) (some b) := grown_iter2 G.out a (pos + 1) hwW
      obtain ⟨W, hWd⟩ : ∃ W, wr.iterAt W0.heap.size a (pos + 1) = W := ⟨_, rfl⟩
      rw [hWd] at hnx hit2 hP2 hG2
      have hWs : W0.heap.size < W.heap.size := (Array.getElem?_eq_some_iff.1 hit2).1
      have hpk := quot_peek hc r'
      have h1 := HE.out
      rw [hdr] at h1
      have HG2 := Kept.mk hG2
      have c0 : (0 : Int) ≤ (c.toNat : Int) := by omega
      have c7 : (c.toNat : Int) < 128 := by omega
      clear HE hdr hdec G hG2 hit hP hWd
      by_cases hq : Ppa.peek r' = (c.toNat : Int) ∨ (97 ≤ (c.toNat : Int) ∧ Ppa.peek r' = (c.toNat : Int) - 97 + 65)
      · obtain ⟨y, u, rfl, hy⟩ := hpk.1 hq
        rw [quotE_eq hy] at h1
        have H2 := Kept.mk h1
        clear hy hpk h1
        generalize hPP : Ppa.peek (y :: u) = X at hq
        have HX := Kept.mk hPP
        clear hPP
        generalize (c.toNat : Int) = C at *
        by_cases hq1 : X = C
        · subst hq1
          clear hq
          go_wp2_with (go_at_call 77; refine (peek_r hP2).mono ?_; rintro e w6 ⟨rfl, hb6⟩; rw [HX.out]; have H6 := hP2.below hb6; have hi6 := (hb6.block _ hWs).trans hit2; have G6 := Kept.mk (HG2.out.trans (grown_of_below hb6 (some b))); clear hb6; obtain ⟨k, hk, c1⟩ := H6.cell; have f1 := H6.row.unf 1; have k0 : (0 : Int) ≤ (k : Int) := (by omega); have k1 : (k : Int) ≤ 65536 := (by omega); have H7 := H6.put (r' := u) ((List.suffix_cons _ _).trans H6.suf) (v := (k : Int) + 1) (by simp at hk ⊢; omega); have G7 := Kept.mk (grown_set G6.out 1 (.int .i64 ((k : Int) + 1))))
          go_roundg g
          case measure => omega
          case rel => exact ⟨pos + 1, u, (Below.heap_setCell _ _ _ _ (by simp; omega)).trans hi6, H7, G7, H2, by omega⟩
        · have hq2 : 97 ≤ C ∧ X = C - 97 + 65 := hq.resolve_left hq1
          obtain ⟨q3, q4⟩ := hq2
          have q5 : (X != C) = true := by simpa using hq1
          have q6 : ¬ C < 97 := by omega
          have q7 : (X != C - 97 + 65) = false := by simp; omega
          have q8 : IntKind.i32.wrap (C - 97) = C - 97 := by unfold IntKind.wrap; simp [IntKind.bits, IntKind.signed]; omega
          clear hq
          go_wp2_with (go_at_call 77; refine (peek_r hP2).mono ?_; rintro e w6 ⟨rfl, hb6⟩; rw [HX.out]; have H6 := hP2.below hb6; have hi6 := (hb6.block _ hWs).trans hit2; have G6 := Kept.mk (HG2.out.trans (grown_of_below hb6 (some b))); clear hb6; obtain ⟨k, hk, c1⟩ := H6.cell; have f1 := H6.row.unf 1; have k0 : (0 : Int) ≤ (k : Int) := (by omega); have k1 : (k : Int) ≤ 65536 := (by omega); have H7 := H6.put (r' := u) ((List.suffix_cons _ _).trans H6.suf) (v := (k : Int) + 1) (by simp at hk ⊢; omega); have G7 := Kept.mk (grown_set G6.out 1 (.int .i64 ((k : Int) + 1))))
          go_roundg g
          case measure => omega
          case rel => exact ⟨pos + 1, u, (Below.heap_setCell _ _ _ _ (by simp; omega)).trans hi6, H7, G7, H2, by omega⟩
      · have hno : ∀ y u, r' = y :: u → ¬ (y = c ∨ (97 ≤ c ∧ y = c - 32)) := fun y u e e2 => hq (hpk.2 ⟨y, u, e, e2⟩)
        rw [quotE_ne hno] at h1
        have HX := Kept.mk h1.symm
        clear hno hpk h1
        generalize hPP : Ppa.peek r' = X at hq
        have HP := Kept.mk hPP
        clear hPP
        generalize (c.toNat : Int) = C at *
        have q1 : ¬ X = C := fun e => hq (.inl e)
        have q5 : (X != C) = true := by simpa using q1
        by_cases q6 : C < 97
        · clear hq
          go_wp2_with (first | (go_at_call 77; refine (peek_r hP2).mono ?_; rintro e w6 ⟨rfl, hb6⟩; rw [HP.out]; have H6 := hP2.below hb6; have G6 := Kept.mk (HG2.out.trans (grown_of_below hb6 (some b))); clear hb6) | (go_at_call 44; refine (no_r H6).mono ?_; rintro e w7 ⟨rfl, rfl⟩))
          exact ⟨rfl, G6.out, by rw [HX.out]; exact ⟨rfl, H6.len⟩⟩
        · have q7 : ¬ X = C - 97 + 65 := fun e => hq (.inr ⟨by omega, e⟩)
          have q8 : (X != C - 97 + 65) = true := by simpa using q7
          clear hq
          go_wp2_with (first | (go_at_call 77; refine (peek_r hP2).mono ?_; rintro e w6 ⟨rfl, hb6⟩; rw [HP.out]; have H6 := hP2.below hb6; have G6 := Kept.mk (HG2.out.trans (grown_of_below hb6 (some b))); clear hb6) | (go_at_call 44; refine (no_r H6).mono ?_; rintro e w7 ⟨rfl, rfl⟩))
          exact ⟨rfl, G6.out, by rw [HX.out]; exact ⟨rfl, H6.len⟩⟩
    · have hnx : ∀ ty, (Instr.next (.pointer (some ⟨W0.heap.size, 0, none⟩)) true ty).run Tryz.prog wr = _ := fun ty => Lib.run_next_end_at wr W0.heap.size a pos ty hit hp
      have h1 := HE.out
      rw [List.drop_eq_nil_of_le (by rw [size_len]; omega)] at h1
      have H1 : Kept (Ppa.mustL [34] r' = T) := ⟨h1⟩
      clear h1 HE
      by_cases hh : r'.head? = some 34
      · obtain ⟨u, rfl⟩ := head_cons hh
        have hq : Ppa.peek (34 :: u) = 34 := (peek_is 34 (by decide) _).2 rfl
        have CM := Kept.mk (may_r 34 (by decide) hP)
        rw [decide_eq_true hq, if_pos hq, show Ppa.skip (34 :: u) = u from skip_low 34 u (by decide)] at CM
        have HX : Kept (T = .ok u) := ⟨by rw [← H1.out, mustL_one_ok]⟩
        clear hh hq
        go_wp2_with (go_at_call 41; refine CM.out.mono ?_; rintro e w6 ⟨rfl, hP6, hg6⟩)
        go_end0
        exact ⟨G.out.trans hg6, by rw [HX.out]; exact ⟨rfl, hP6⟩⟩
      · have hq : ¬ Ppa.peek r' = 34 := fun e => hh ((peek_is 34 (by decide) _).1 e)
        have CM := Kept.mk (may_r 34 (by decide) hP)
        rw [decide_eq_false hq, if_neg hq] at CM
        have HX : Kept (T = .error r') := ⟨by rw [← H1.out, mustL_one_no hh]⟩
        clear hh hq
        go_wp2_with (first | (go_at_call 41; refine CM.out.mono ?_; rintro e w6 ⟨rfl, hP6, hg6⟩; have G6 := Kept.mk (G.out.trans hg6); clear hg6) | (go_at_call 44; refine (no_r hP6).mono ?_; rintro e w7 ⟨rfl, rfl⟩))
        exact ⟨rfl, G6.out, by rw [HX.out]; exact ⟨rfl, hP6.len⟩⟩
set_option maxRecDepth 100000 in
set_option maxHeartbeats 4000000 in
theorem quoted_39 {B b : Nat} {s : ByteArray} {x : List Value} {r r1 t : Ppa.Bs} {w : World} (a : ByteArray) (ha : ∀ c ∈ a.data.toList, c.toNat < 128) (h : Pa B b s x r w) (h1 : Ppa.mustL [61] (Ppa.blanksL r) = .ok r1) (h2 : Ppa.blanksL r1 = 39 :: t) :
    Calls Tryz.prog 75 #[.pointer (some ⟨b, 0, none⟩), .string a] w fun e w' => Ways B b s x w (.tuple #[]) (quotE 39 a.data.toList t) e w' := by
  have hlt := h.row.lt
  have hB0 : B ≤ w.heap.size := h.ev.le
  have hsm := h.small
  generalize hT : (quotE 39 a.data.toList t) = T
  have K1 := Kept.mk h1
  have K2 := Kept.mk h2
  have HT : Kept (Ppa.blanksL r1 = 39 :: t → (quotE 39 (a.data.toList.drop 0) t) = T) := ⟨fun _ => hT⟩
  have HP : Kept (Ppa.peek (39 :: t) = 39) := ⟨(peek_is 39 (by decide) _).2 rfl⟩
  have TG0 : Kept True := ⟨trivial⟩
  clear h1 h2 hT
  go_enter Tryz.func75, Tryz.ntmps75
  go_wp2_with (first | (go_at_call 39; clear TG0; refine (blanks_r h).mono ?_; rintro e w1 ⟨rfl, H1, hg1⟩; have G1 := Kept.mk hg1; clear hg1) | (go_at_call 40; refine (must_ok [61] (by decide) H1 K1.out).mono ?_; rintro e w2 ⟨rfl, H2, hg2⟩; have G2 := Kept.mk (G1.out.trans hg2); clear hg2) | (go_at_call 39; refine (blanks_r H2).mono ?_; rintro e w3 ⟨rfl, H3, hg3⟩; rw [K2.out] at H3; have G3 := Kept.mk (G2.out.trans hg3); clear hg3) | (go_at_call 77; refine (peek_r H3).mono ?_; rintro e w4 ⟨rfl, hb4⟩; rw [HP.out]; have H4 := H3.below hb4; have G4 := Kept.mk (G3.out.trans (grown_of_below hb4 (some b))); clear hb4; obtain ⟨k, hk, c1⟩ := H4.cell; have f1 := H4.row.unf 1; have k0 : (0 : Int) ≤ (k : Int) := (by omega); have k1 : (k : Int) ≤ 65536 := (by omega); have H5 := H4.put (r' := t) ((List.suffix_cons _ _).trans H4.suf) (v := (k : Int) + 1) (by simp at hk ⊢; omega); have G5 := Kept.mk (grown_set G4.out 1 (.int .i64 ((k : Int) + 1)))))
  obtain ⟨W0, hW0⟩ : ∃ W, w4.setCell ⟨b, 1, none⟩ (.int .i64 ((k : Int) + 1)) = W := ⟨_, rfl⟩
  have hz0 : w4.heap.size = W0.heap.size := by rw [← hW0]; simp
  rw [hW0] at H5 G5
  simp only [hW0, hz0]
  have hbW : b < W0.heap.size := H5.row.lt
  have hBW : B ≤ W0.heap.size := H5.ev.le
  have HT2 := Kept.mk (HT.out K2.out)
  have hwW : w.heap.size ≤ W0.heap.size := G5.out.size
  clear H1 H2 H3 H4 c1 f1 hk k0 k1 HP K1 K2 HT hW0 hz0
  go_loopg [6, 7] a.size (fun g _ _ wx => ∃ (pos : Nat) (r' : Ppa.Bs), wx.heap[W0.heap.size]? = some (.stringIter a pos) ∧ Pa B b s x r' wx ∧ Kept (w.grownBy wx (some b)) ∧ Kept (quotE 39 (a.data.toList.drop pos) r' = T) ∧ a.size ≤ pos + g)
  case atStart => exact ⟨0, t, World.iter_heap W0 a 0, H5.below ((Below.refl _ W0).alloc (Nat.le_refl _) _), ⟨G5.out.trans (grown_of_below ((Below.refl _ W0).alloc (Nat.le_refl _) _) _)⟩, HT2, by omega⟩
  case round =>
    obtain ⟨pos, r', hit, hP, G, HE, hle⟩ := hrel
    have hsz : W0.heap.size < wr.heap.size := (Array.getElem?_eq_some_iff.1 hit).1
    clear H5 G5 HT2 h
    by_cases hp : pos < a.size
    · obtain ⟨g, rfl⟩ : ∃ g, gk = g + 1 := ⟨gk - 1, by omega⟩
      obtain ⟨c, hc, hdr, hdec⟩ := low_at a ha pos hp
      have hnx : ∀ ty, (Instr.next (.pointer (some ⟨W0.heap.size, 0, none⟩)) true ty).run Tryz.prog wr = _ := fun ty => Lib.run_next_any_at wr W0.heap.size a pos ty hit hp
      rw [hdec] at hnx
      have hit2 := Lib.iterAt_heap wr W0.heap.size a pos (pos + 1) hit
      have hP2 := hP.iter (k := W0.heap.size) hBW (by omega) a (pos + 1)
      have hG2 : w.grownBy (wr.iterAt W0.heap.size a (pos + 1)) (some b) := grown_iter2 G.out a (pos + 1) hwW
      obtain ⟨W, hWd⟩ : ∃ W, wr.iterAt W0.heap.size a (pos + 1) = W := ⟨_, rfl⟩
      rw [hWd] at hnx hit2 hP2 hG2
      have hWs : W0.heap.size < W.heap.size := (Array.getElem?_eq_some_iff.1 hit2).1
      have hpk := quot_peek hc r'
      have h1 := HE.out
      rw [hdr] at h1
      have HG2 := Kept.mk hG2
      have c0 : (0 : Int) ≤ (c.toNat : Int) := by omega
      have c7 : (c.toNat : Int) < 128 := by omega
      clear HE hdr hdec G hG2 hit hP hWd
      by_cases hq : Ppa.peek r' = (c.toNat : Int) ∨ (97 ≤ (c.toNat : Int) ∧ Ppa.peek r' = (c.toNat : Int) - 97 + 65)
      · obtain ⟨y, u, rfl, hy⟩ := hpk.1 hq
        rw [quotE_eq hy] at h1
        have H2 := Kept.mk h1
        clear hy hpk h1
        generalize hPP : Ppa.peek (y :: u) = X at hq
        have HX := Kept.mk hPP
        clear hPP
        generalize (c.toNat : Int) = C at *
        by_cases hq1 : X = C
        · subst hq1
          clear hq
          go_wp2_with (go_at_call 77; refine (peek_r hP2).mono ?_; rintro e w6 ⟨rfl, hb6⟩; rw [HX.out]; have H6 := hP2.below hb6; have hi6 := (hb6.block _ hWs).trans hit2; have G6 := Kept.mk (HG2.out.trans (grown_of_below hb6 (some b))); clear hb6; obtain ⟨k, hk, c1⟩ := H6.cell; have f1 := H6.row.unf 1; have k0 : (0 : Int) ≤ (k : Int) := (by omega); have k1 : (k : Int) ≤ 65536 := (by omega); have H7 := H6.put (r' := u) ((List.suffix_cons _ _).trans H6.suf) (v := (k : Int) + 1) (by simp at hk ⊢; omega); have G7 := Kept.mk (grown_set G6.out 1 (.int .i64 ((k : Int) + 1))))
          go_roundg g
          case measure => omega
          case rel => exact ⟨pos + 1, u, (Below.heap_setCell _ _ _ _ (by simp; omega)).trans hi6, H7, G7, H2, by omega⟩
        · have hq2 : 97 ≤ C ∧ X = C - 97 + 65 := hq.resolve_left hq1
          obtain ⟨q3, q4⟩ := hq2
          have q5 : (X != C) = true := by simpa using hq1
          have q6 : ¬ C < 97 := by omega
          have q7 : (X != C - 97 + 65) = false := by simp; omega
          have q8 : IntKind.i32.wrap (C - 97) = C - 97 := by unfold IntKind.wrap; simp [IntKind.bits, IntKind.signed]; omega
          clear hq
          go_wp2_with (go_at_call 77; refine (peek_r hP2).mono ?_; rintro e w6 ⟨rfl, hb6⟩; rw [HX.out]; have H6 := hP2.below hb6; have hi6 := (hb6.block _ hWs).trans hit2; have G6 := Kept.mk (HG2.out.trans (grown_of_below hb6 (some b))); clear hb6; obtain ⟨k, hk, c1⟩ := H6.cell; have f1 := H6.row.unf 1; have k0 : (0 : Int) ≤ (k : Int) := (by omega); have k1 : (k : Int) ≤ 65536 := (by omega); have H7 := H6.put (r' := u) ((List.suffix_cons _ _).trans H6.suf) (v := (k : Int) + 1) (by simp at hk ⊢; omega); have G7 := Kept.mk (grown_set G6.out 1 (.int .i64 ((k : Int) + 1))))
          go_roundg g
          case measure => omega
          case rel => exact ⟨pos + 1, u, (Below.heap_setCell _ _ _ _ (by simp; omega)).trans hi6, H7, G7, H2, by omega⟩
      · have hno : ∀ y u, r' = y :: u → ¬ (y = c ∨ (97 ≤ c ∧ y = c - 32)) := fun y u e e2 => hq (hpk.2 ⟨y, u, e, e2⟩)
        rw [quotE_ne hno] at h1
        have HX := Kept.mk h1.symm
        clear hno hpk h1
        generalize hPP : Ppa.peek r' = X at hq
        have HP := Kept.mk hPP
        clear hPP
        generalize (c.toNat : Int) = C at *
        have q1 : ¬ X = C := fun e => hq (.inl e)
        have q5 : (X != C) = true := by simpa using q1
        by_cases q6 : C < 97
        · clear hq
          go_wp2_with (first | (go_at_call 77; refine (peek_r hP2).mono ?_; rintro e w6 ⟨rfl, hb6⟩; rw [HP.out]; have H6 := hP2.below hb6; have G6 := Kept.mk (HG2.out.trans (grown_of_below hb6 (some b))); clear hb6) | (go_at_call 44; refine (no_r H6).mono ?_; rintro e w7 ⟨rfl, rfl⟩))
          exact ⟨rfl, G6.out, by rw [HX.out]; exact ⟨rfl, H6.len⟩⟩
        · have q7 : ¬ X = C - 97 + 65 := fun e => hq (.inr ⟨by omega, e⟩)
          have q8 : (X != C - 97 + 65) = true := by simpa using q7
          clear hq
          go_wp2_with (first | (go_at_call 77; refine (peek_r hP2).mono ?_; rintro e w6 ⟨rfl, hb6⟩; rw [HP.out]; have H6 := hP2.below hb6; have G6 := Kept.mk (HG2.out.trans (grown_of_below hb6 (some b))); clear hb6) | (go_at_call 44; refine (no_r H6).mono ?_; rintro e w7 ⟨rfl, rfl⟩))
          exact ⟨rfl, G6.out, by rw [HX.out]; exact ⟨rfl, H6.len⟩⟩
    · have hnx : ∀ ty, (Instr.next (.pointer (some ⟨W0.heap.size, 0, none⟩)) true ty).run Tryz.prog wr = _ := fun ty => Lib.run_next_end_at wr W0.heap.size a pos ty hit hp
      have h1 := HE.out
      rw [List.drop_eq_nil_of_le (by rw [size_len]; omega)] at h1
      have H1 : Kept (Ppa.mustL [39] r' = T) := ⟨h1⟩
      clear h1 HE
      by_cases hh : r'.head? = some 39
      · obtain ⟨u, rfl⟩ := head_cons hh
        have hq : Ppa.peek (39 :: u) = 39 := (peek_is 39 (by decide) _).2 rfl
        have CM := Kept.mk (may_r 39 (by decide) hP)
        rw [decide_eq_true hq, if_pos hq, show Ppa.skip (39 :: u) = u from skip_low 39 u (by decide)] at CM
        have HX : Kept (T = .ok u) := ⟨by rw [← H1.out, mustL_one_ok]⟩
        clear hh hq
        go_wp2_with (go_at_call 41; refine CM.out.mono ?_; rintro e w6 ⟨rfl, hP6, hg6⟩)
        go_end0
        exact ⟨G.out.trans hg6, by rw [HX.out]; exact ⟨rfl, hP6⟩⟩
      · have hq : ¬ Ppa.peek r' = 39 := fun e => hh ((peek_is 39 (by decide) _).1 e)
        have CM := Kept.mk (may_r 39 (by decide) hP)
        rw [decide_eq_false hq, if_neg hq] at CM
        have HX : Kept (T = .error r') := ⟨by rw [← H1.out, mustL_one_no hh]⟩
        clear hh hq
        go_wp2_with (first | (go_at_call 41; refine CM.out.mono ?_; rintro e w6 ⟨rfl, hP6, hg6⟩; have G6 := Kept.mk (G.out.trans hg6); clear hg6) | (go_at_call 44; refine (no_r hP6).mono ?_; rintro e w7 ⟨rfl, rfl⟩))
        exact ⟨rfl, G6.out, by rw [HX.out]; exact ⟨rfl, hP6.len⟩⟩
theorem quoted_r {B b : Nat} {s : ByteArray} {x : List Value} {r : Ppa.Bs} {w : World} (a : ByteArray) (ha : ∀ c ∈ a.data.toList, c.toNat < 128) (h : Pa B b s x r w) :
    Calls Tryz.prog 75 #[.pointer (some ⟨b, 0, none⟩), .string a] w fun e w' => Ways B b s x w (.tuple #[]) (Ppa.quotM a.data.toList r) e w' := by
  cases h1 : Ppa.mustL [61] (Ppa.blanksL r) with
  | error r1 =>
    have hq : Ppa.quotM a.data.toList r = .error r1 := by
      unfold Ppa.quotM
      rw [h1]
    rw [hq]
    exact quoted_eq a h h1
  | ok r1 =>
    by_cases h2 : (Ppa.blanksL r1).head? = some 34
    · obtain ⟨t, ht⟩ := head_cons h2
      rw [quotM_some h1 ht (.inl rfl)]
      exact quoted_34 a ha h h1 ht
    · by_cases h3 : (Ppa.blanksL r1).head? = some 39
      · obtain ⟨t, ht⟩ := head_cons h3
        rw [quotM_some h1 ht (.inr rfl)]
        exact quoted_39 a ha h h1 ht
      · rw [quotM_none h1 h2 h3]
        exact quoted_none a h h1 h2 h3
theorem quot_s_ok {B b : Nat} {s : ByteArray} {st : Ppa.St} {r t : Ppa.Bs} {w : World} (l : List UInt8) (hl : l.all (fun c => decide (c.toNat < 128)) = true) (h : Ps B b s st r w) (hm : Ppa.quotM l r = .ok t) :
    Calls Tryz.prog 75 #[.pointer (some ⟨b, 0, none⟩), .string ⟨l.toArray⟩] w fun e w' => e = .returned (.tuple #[]) ∧ Ps B b s st t w' ∧ Bel B b w w' := h.way_ok (fun _ hP => quoted_r ⟨l.toArray⟩ (low_lit hl) hP) hm
theorem quot_s_no {B b : Nat} {s : ByteArray} {st : Ppa.St} {r t : Ppa.Bs} {w : World} (l : List UInt8) (hl : l.all (fun c => decide (c.toNat < 128)) = true) (h : Ps B b s st r w) (hm : Ppa.quotM l r = .error t) :
    Calls Tryz.prog 75 #[.pointer (some ⟨b, 0, none⟩), .string ⟨l.toArray⟩] w fun e w' => Gone (s.size - t.length) e ∧ t.length ≤ s.size ∧ Bel B b w w' := h.way_no (fun _ hP => quoted_r ⟨l.toArray⟩ (low_lit hl) hP) hm
end Go.Proofs.YtlemdhfekdiaeaaGreatDoor.Wps
