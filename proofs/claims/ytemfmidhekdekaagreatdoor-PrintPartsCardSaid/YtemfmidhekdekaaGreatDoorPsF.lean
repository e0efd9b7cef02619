/- Joined texts: ParseAA, ParseAB, ParseAC. -/
import Derived.Test.YtemfmidhekdekaaGreatDoorPsE
import Derived.Shelf.Small.Wraps
namespace Go.Proofs.YtemfmidhekdekaaGreatDoor.Wps
open Go Go.RowKit Go.Proofs.YtemfmidhekdekaaGreatDoor.Kb Go.Proofs.YtemfmidhekdekaaGreatDoor.Wch Go.Proofs.YtemfmidhekdekaaGreatDoor.Emk

theorem both_s (B b : Nat) (s : ByteArray) (n : Nat) : ContC B b s n ∧ MarkC B b s n := by
  induction n using Nat.strongRecOn with
  | ind n ih =>
    refine ⟨content_s (fun g hg => (ih g hg).2), ?_⟩
    cases n with
    | zero =>
      intro p d st r w o _ _ _ _ _ he
      unfold Ppa.markF at he
      cases he
    | succ f => exact markup_s (fun g hg => (ih g (by omega)).1)
theorem quotG_eq {c : UInt8} {u : Ppa.Bs} {x : UInt8} {t : Ppa.Bs} (h : x = c ∨ (97 ≤ c ∧ x = c - 32)) : Ppa.quotG (c :: u) (x :: t) = Ppa.quotG u t := by
  rw [Ppa.quotG, if_pos h]
theorem quotG_ne {c : UInt8} {u r : Ppa.Bs} (h : ∀ x t, r = x :: t → ¬ (x = c ∨ (97 ≤ c ∧ x = c - 32))) : Ppa.quotG (c :: u) r = .error r := by
  cases r with
  | nil => rfl
  | cons x t => rw [Ppa.quotG, if_neg (h x t rfl)]
/-- the same for the character that stands next -/
theorem quot_peek {c : UInt8} (hc : c.toNat < 128) (r : Ppa.Bs) : (Ppa.peek r = (c.toNat : Int) ∨ (97 ≤ (c.toNat : Int) ∧ Ppa.peek r = (c.toNat : Int) - 97 + 65)) ↔ ∃ x t, r = x :: t ∧ (x = c ∨ (97 ≤ c ∧ x = c - 32)) := by
  cases r with
  | nil =>
    constructor
    · intro h
      exfalso
      simp [Ppa.peek] at h
      omega
    · rintro ⟨x, t, h, _⟩
      cases h
  | cons y u =>
    constructor
    · intro h
      refine ⟨y, u, rfl, ?_⟩
      rcases Nat.lt_or_ge y.toNat 128 with hy | hy
      · rw [peek_low y u hy] at h
        rcases h with h | ⟨h1, h2⟩
        · exact .inl (UInt8.toNat_inj.1 (by omega))
        · refine .inr ⟨by rw [UInt8.le_iff_toNat_le]; show 97 ≤ c.toNat; omega, UInt8.toNat_inj.1 ?_⟩
          rw [UInt8.toNat_sub_of_le _ _ (by rw [UInt8.le_iff_toNat_le]; show 32 ≤ c.toNat; omega)]
          show y.toNat = c.toNat - 32
          omega
      · have := peek_high y u hy
        exfalso
        omega
    · rintro ⟨x, t, h, h2⟩
      injection h with h h3
      subst h h3
      rcases h2 with rfl | ⟨h2, h3⟩
      · exact .inl (peek_low y u hc)
      · have h4 : 97 ≤ c.toNat := by rw [UInt8.le_iff_toNat_le] at h2; exact h2
        have h5 : y.toNat = c.toNat - 32 := by rw [h3, UInt8.toNat_sub_of_le _ _ (by rw [UInt8.le_iff_toNat_le]; show 32 ≤ c.toNat; omega)]; rfl
        exact .inr ⟨by omega, by rw [peek_low y u (by omega)]; omega⟩
theorem quotM_none {a r1 r : Ppa.Bs} (h : Ppa.mustL [61] (Ppa.blanksL r) = .ok r1) (h1 : (Ppa.blanksL r1).head? ≠ some 34) (h2 : (Ppa.blanksL r1).head? ≠ some 39) : Ppa.quotM a r = .error (Ppa.blanksL r1) := by
  unfold Ppa.quotM
  rw [h]
  dsimp only
  generalize Ppa.blanksL r1 = z at h1 h2
  cases z with
  | nil => rfl
  | cons x t =>
    dsimp only
    rw [if_neg]
    rintro (rfl | rfl)
    · exact h1 rfl
    · exact h2 rfl
/-- a quoted word, and the quote behind it -/
def quotE (q : UInt8) (a t : Ppa.Bs) : Except Ppa.Bs Ppa.Bs := match Ppa.quotG a t with
  | .error r2 => .error r2
  | .ok r2 => Ppa.mustL [q] r2
theorem quotE_eq {q c : UInt8} {u : Ppa.Bs} {x : UInt8} {t : Ppa.Bs} (h : x = c ∨ (97 ≤ c ∧ x = c - 32)) : quotE q (c :: u) (x :: t) = quotE q u t := by unfold quotE; rw [quotG_eq h]
theorem quotE_ne {q c : UInt8} {u r : Ppa.Bs} (h : ∀ x t, r = x :: t → ¬ (x = c ∨ (97 ≤ c ∧ x = c - 32))) : quotE q (c :: u) r = .error r := by unfold quotE; rw [quotG_ne h]
theorem quotM_some {a r1 r t : Ppa.Bs} {q : UInt8} (h : Ppa.mustL [61] (Ppa.blanksL r) = .ok r1) (h1 : Ppa.blanksL r1 = q :: t) (hq : q = 34 ∨ q = 39) : Ppa.quotM a r = quotE q a t := by
  unfold Ppa.quotM quotE
  rw [h]
  dsimp only
  rw [h1]
  dsimp only
  rw [if_pos hq]
  rfl
set_option maxRecDepth 100000 in
theorem quoted_eq {B b : Nat} {s : ByteArray} {x : List Value} {r r1 : Ppa.Bs} {w : World} (a : ByteArray) (h : Pa B b s x r w) (h1 : Ppa.mustL [61] (Ppa.blanksL r) = .error r1) :
    Calls Tryz.prog 83 #[.pointer (some ⟨b, 0, none⟩), .string a] w fun e w' => Ways B b s x w (.tuple #[]) (.error r1) e w' := by
  have K1 := Kept.mk h1
  clear h1
  go_enter Tryz.func83, Tryz.ntmps83
  go_wp2_with (first | (go_at_call 56; refine (blanks_r h).mono ?_; rintro e w1 ⟨rfl, H1, hg1⟩; have G1 := Kept.mk hg1; clear hg1) | (go_at_call 57; refine (must_no [61] (by decide) H1 K1.out).mono ?_; rintro e w2 ⟨rfl, hl2, hg2⟩; have G2 := Kept.mk (G1.out.trans hg2); clear hg2))
  exact ⟨rfl, G2.out, rfl, hl2⟩
set_option maxRecDepth 100000 in
theorem quoted_none {B b : Nat} {s : ByteArray} {x : List Value} {r r1 : Ppa.Bs} {w : World} (a : ByteArray) (h : Pa B b s x r w) (h1 : Ppa.mustL [61] (Ppa.blanksL r) = .ok r1) (h2 : (Ppa.blanksL r1).head? ≠ some 34) (h3 : (Ppa.blanksL r1).head? ≠ some 39) :
    Calls Tryz.prog 83 #[.pointer (some ⟨b, 0, none⟩), .string a] w fun e w' => Ways B b s x w (.tuple #[]) (.error (Ppa.blanksL r1)) e w' := by
  have K1 := Kept.mk h1
  have p1 : ¬ Ppa.peek (Ppa.blanksL r1) = 34 := fun e => h2 ((peek_is 34 (by decide) _).1 e)
  have p2 : ¬ Ppa.peek (Ppa.blanksL r1) = 39 := fun e => h3 ((peek_is 39 (by decide) _).1 e)
  have q1 : (Ppa.peek (Ppa.blanksL r1) != 34) = true := by simpa using p1
  have q2 : (Ppa.peek (Ppa.blanksL r1) != 39) = true := by simpa using p2
  have TG0 : Kept True := ⟨trivial⟩
  clear h1 h2 h3
  go_enter Tryz.func83, Tryz.ntmps83
  go_wp2_with (first | (go_at_call 56; clear TG0; refine (blanks_r h).mono ?_; rintro e w1 ⟨rfl, H1, hg1⟩; have G1 := Kept.mk hg1; clear hg1) | (go_at_call 57; refine (must_ok [61] (by decide) H1 K1.out).mono ?_; rintro e w2 ⟨rfl, H2, hg2⟩; have G2 := Kept.mk (G1.out.trans hg2); clear hg2) | (go_at_call 56; refine (blanks_r H2).mono ?_; rintro e w3 ⟨rfl, H3, hg3⟩; have G3 := Kept.mk (G2.out.trans hg3); clear hg3) | (go_at_call 67; refine (peek_r H3).mono ?_; rintro e w4 ⟨rfl, hb4⟩; have H4 := H3.below hb4; have G4 := Kept.mk (G3.out.trans (grown_of_below hb4 (some b))); clear hb4) | (go_at_call 61; refine (no_r H4).mono ?_; rintro e w5 ⟨rfl, rfl⟩))
  exact ⟨rfl, G4.out, rfl, H4.len⟩
theorem grown_iter2 {w w' : World} {b k : Nat} (h : w.grownBy w' (some b)) (a : ByteArray) (pos : Nat) (hk : w.heap.size ≤ k) : w.grownBy (w'.iterAt k a pos) (some b) :=
  ⟨h.os, h.tape, h.output, by rw [Lib.iterAt_size]; exact h.size, fun j hj hne => (Lib.iterAt_other w' k j a pos (by omega)).trans (h.block j hj hne)⟩
set_option maxRecDepth 100000 in
set_option maxHeartbeats 4000000 in
theorem quoted_34 {B b : Nat} {s : ByteArray} {x : List Value} {r r1 t : Ppa.Bs} {w : World} (a : ByteArray) (ha : ∀ c ∈ a.data.toList, c.toNat < 128) (h : Pa B b s x r w) (h1 : Ppa.mustL [61] (Ppa.blanksL r) = .ok r1) (h2 : Ppa.blanksL r1 = 34 :: t) :
    Calls Tryz.prog 83 #[.pointer (some ⟨b, 0, none⟩), .string a] w fun e w' => Ways B b s x w (.tuple #[]) (quotE 34 a.data.toList t) e w' := by
  have hlt := h.row.lt
  have hB0 : B ≤ w.heap.size := h.ev.le
  have hsm := h.small
  generalize hT : (quotE 34 a.data.toList t) = T
  have K1 := Kept.mk h1
  have K2 := Kept.mk h2
  have HT : Kept (Ppa.blanksL r1 = 34 :: t → (quotE 34 (a.data.toList.drop 0) t) = T) := ⟨fun _ => hT⟩
  have HP : Kept (Ppa.peek (34 :: t) = 34) := ⟨(peek_is 34 (by decide) _).2 rfl⟩
  have TG0 : Kept True := ⟨trivial⟩
  clear h1 h2 hT
  go_enter Tryz.func83, Tryz.ntmps83
  go_wp2_with (first | (go_at_call 56; clear TG0; refine (blanks_r h).mono ?_; rintro e w1 ⟨rfl, H1, hg1⟩; have G1 := Kept.mk hg1; clear hg1) | (go_at_call 57; refine (must_ok [61] (by decide) H1 K1.out).mono ?_; rintro e w2 ⟨rfl, H2, hg2⟩; have G2 := Kept.mk (G1.out.trans hg2); clear hg2) | (go_at_call 56; refine (blanks_r H2).mono ?_; rintro e w3 ⟨rfl, H3, hg3⟩; rw [K2.out] at H3; have G3 := Kept.mk (G2.out.trans hg3); clear hg3) | (go_at_call 67; refine (peek_r H3).mono ?_; rintro e w4 ⟨rfl, hb4⟩; rw [HP.out]; have H4 := H3.below hb4; have G4 := Kept.mk (G3.out.trans (grown_of_below hb4 (some b))); clear hb4; obtain ⟨k, hk, c1⟩ := H4.cell; have f1 := H4.row.unf 1; have k0 : (0 : Int) ≤ (k : Int) := (by omega); have k1 : (k : Int) ≤ 65536 := (by omega); have H5 := H4.put (r' := t) ((List.suffix_cons _ _).trans H4.suf) (v := (k : Int) + 1) (by simp at hk ⊢; omega); have G5 := Kept.mk (grown_set G4.out 1 (.int .i64 ((k : Int) + 1)))))
  obtain ⟨W0, hW0⟩ : ∃ W, w4.setCell ⟨b, 1, none⟩ (.int .i64 ((k : Int) + 1)) = W := ⟨_, rfl⟩
  have hz0 : w4.heap.size = W0.heap.size := by rw [← hW0]; simp
  rw [hW0] at H5 G5
  simp only [hW0, hz0]
  have hbW : b < W0.heap.size := H5.row.lt
  have hBW : B ≤ W0.heap.size := H5.ev.le
  have HT2 := Kept.mk (HT.out K2.out)
  have hwW : w.heap.size ≤ W0.heap.size := G5.out.size
  clear H1 H2 H3 H4 c1 f1 hk k0 k1 HP K1 K2 HT hW0 hz0
  go_loopg [6, 7] a.size (fun g _ _ wx => ∃ (pos : Nat) (r' : Ppa.Bs), wx.heap[W0.heap.size]? = some (.stringIter a pos) ∧ Pa B b s x r' wx ∧ Kept (w.grownBy wx (some b)) ∧ Kept (quotE 34 (a.data.toList.drop pos) r' = T) ∧ a.size ≤ pos + g)
  case atStart => exact ⟨0, t, World.iter_heap W0 a 0, H5.below ((Below.refl _ W0).alloc (Nat.le_refl _) _), ⟨G5.out.trans (grown_of_below ((Below.refl _ W0).alloc (Nat.le_refl _) _) _)⟩, HT2, by omega⟩
  case round =>
    obtain ⟨pos, r', hit, hP, G, HE, hle⟩ := hrel
    have hsz : W0.heap.size < wr.heap.size := (Array.getElem?_eq_some_iff.1 hit).1
    clear H5 G5 HT2 h
    by_cases hp : pos < a.size
    · obtain ⟨g, rfl⟩ : ∃ g, gk = g + 1 := ⟨gk - 1, by omega⟩
      obtain ⟨c, hc, hdr, hdec⟩ := low_at a ha pos hp
      have hnx : ∀ ty, (Instr.next (.pointer (some ⟨W0.heap.size, 0, none⟩)) true ty).run Tryz.prog wr = _ := fun ty => Lib.run_next_any_at wr W0.heap.size a pos ty hit hp
      rw [hdec] at hnx
      have hit2 := Lib.iterAt_heap wr W0.heap.size a pos (pos + 1) hit
      have hP2 := hP.iter (k := W0.heap.size) hBW (by omega) a (pos + 1)
      have hG2 : w.grownBy (wr.iterAt W0.heap.size a (pos + 1)) (some b) := grown_iter2 G.out a (pos + 1) hwW
      obtain ⟨W, hWd⟩ : ∃ W, wr.iterAt W0.heap.size a (pos + 1) = W := ⟨_, rfl⟩
      rw [hWd] at hnx hit2 hP2 hG2
      have hWs : W0.heap.size < W.heap.size := (Array.getElem?_eq_some_iff.1 hit2).1
      have hpk := quot_peek hc r'
      have h1 := HE.out
      rw [hdr] at h1
      have HG2 := Kept.mk hG2
      have c0 : (0 : Int) ≤ (c.toNat : Int) := by omega
      have c7 : (c.toNat : Int) < 128 := by omega
      clear HE hdr hdec G hG2 hit hP hWd
      by_cases hq : Ppa.peek r' = (c.toNat : Int) ∨ (97 ≤ (c.toNat : Int) ∧ Ppa.peek r' = (c.toNat : Int) - 97 + 65)
      · obtain ⟨y, u, rfl, hy⟩ := hpk.1 hq
        rw [quotE_eq hy] at h1
        have H2 := Kept.mk h1
        clear hy hpk h1
        generalize hPP : Ppa.peek (y :: u) = X at hq
        have HX := Kept.mk hPP
        clear hPP
        generalize (c.toNat : Int) = C at *
        by_cases hq1 : X = C
        · subst hq1
          clear hq
          go_wp2_with (go_at_call 67; refine (peek_r hP2).mono ?_; rintro e w6 ⟨rfl, hb6⟩; rw [HX.out]; have H6 := hP2.below hb6; have hi6 := (hb6.block _ hWs).trans hit2; have G6 := Kept.mk (HG2.out.trans (grown_of_below hb6 (some b))); clear hb6; obtain ⟨k, hk, c1⟩ := H6.cell; have f1 := H6.row.unf 1; have k0 : (0 : Int) ≤ (k : Int) := (by omega); have k1 : (k : Int) ≤ 65536 := (by omega); have H7 := H6.put (r' := u) ((List.suffix_cons _ _).trans H6.suf) (v := (k : Int) + 1) (by simp at hk ⊢; omega); have G7 := Kept.mk (grown_set G6.out 1 (.int .i64 ((k : Int) + 1))))
          go_roundg g
          case measure => omega
          case rel => exact ⟨pos + 1, u, (Below.heap_setCell _ _ _ _ (by simp; omega)).trans hi6, H7, G7, H2, by omega⟩
        · have hq2 : 97 ≤ C ∧ X = C - 97 + 65 := hq.resolve_left hq1
          obtain ⟨q3, q4⟩ := hq2
          have q5 : (X != C) = true := by simpa using hq1
          have q6 : ¬ C < 97 := by omega
          have q7 : (X != C - 97 + 65) = false := by simp; omega
          have q8 : IntKind.i32.wrap (C - 97) = C - 97 := by unfold IntKind.wrap; simp [IntKind.bits, IntKind.signed]; omega
          clear hq
          go_wp2_with (go_at_call 67; refine (peek_r hP2).mono ?_; rintro e w6 ⟨rfl, hb6⟩; rw [HX.out]; have H6 := hP2.below hb6; have hi6 := (hb6.block _ hWs).trans hit2; have G6 := Kept.mk (HG2.out.trans (grown_of_below hb6 (some b))); clear hb6; obtain ⟨k, hk, c1⟩ := H6.cell; have f1 := H6.row.unf 1; have k0 : (0 : Int) ≤ (k : Int) := (by omega); have k1 : (k : Int) ≤ 65536 := (by omega); have H7 := H6.put (r' := u) ((List.suffix_cons _ _).trans H6.suf) (v := (k : Int) + 1) (by simp at hk ⊢; omega); have G7 := Kept.mk (grown_set G6.out 1 (.int .i64 ((k : Int) + 1))))
          go_roundg g
          case measure => omega
          case rel => exact ⟨pos + 1, u, (Below.heap_setCell _ _ _ _ (by simp; omega)).trans hi6, H7, G7, H2, by omega⟩
      · have hno : ∀ y u, r' = y :: u → ¬ (y = c ∨ (97 ≤ c ∧ y = c - 32)) := fun y u e e2 => hq (hpk.2 ⟨y, u, e, e2⟩)
        rw [quotE_ne hno] at h1
        have HX := Kept.mk h1.symm
        clear hno hpk h1
        generalize hPP : Ppa.peek r' = X at hq
        have HP := Kept.mk hPP
        clear hPP
        generalize (c.toNat : Int) = C at *
        have q1 : ¬ X = C := fun e => hq (.inl e)
        have q5 : (X != C) = true := by simpa using q1
        by_cases q6 : C < 97
        · clear hq
          go_wp2_with (first | (go_at_call 67; refine (peek_r hP2).mono ?_; rintro e w6 ⟨rfl, hb6⟩; rw [HP.out]; have H6 := hP2.below hb6; have G6 := Kept.mk (HG2.out.trans (grown_of_below hb6 (some b))); clear hb6) | (go_at_call 61; refine (no_r H6).mono ?_; rintro e w7 ⟨rfl, rfl⟩))
          exact ⟨rfl, G6.out, by rw [HX.out]; exact ⟨rfl, H6.len⟩⟩
        · have q7 : ¬ X = C - 97 + 65 := fun e => hq (.inr ⟨by omega, e⟩)
          have q8 : (X != C - 97 + 65) = true := by simpa using q7
          clear hq
          go_wp2_with (first | (go_at_call 67; refine (peek_r hP2).mono ?_; rintro e w6 ⟨rfl, hb6⟩; rw [HP.out]; have H6 := hP2.below hb6; have G6 := Kept.mk (HG2.out.trans (grown_of_below hb6 (some b))); clear hb6) | (go_at_call 61; refine (no_r H6).mono ?_; rintro e w7 ⟨rfl, rfl⟩))
          exact ⟨rfl, G6.out, by rw [HX.out]; exact ⟨rfl, H6.len⟩⟩
    · have hnx : ∀ ty, (Instr.next (.pointer (some ⟨W0.heap.size, 0, none⟩)) true ty).run Tryz.prog wr = _ := fun ty => Lib.run_next_end_at wr W0.heap.size a pos ty hit hp
      have h1 := HE.out
      rw [List.drop_eq_nil_of_le (by rw [size_len]; omega)] at h1
      have H1 : Kept (Ppa.mustL [34] r' = T) := ⟨h1⟩
      clear h1 HE
      by_cases hh : r'.head? = some 34
      · obtain ⟨u, rfl⟩ := head_cons hh
        have hq : Ppa.peek (34 :: u) = 34 := (peek_is 34 (by decide) _).2 rfl
        have CM := Kept.mk (may_r 34 (by decide) hP)
        rw [decide_eq_true hq, if_pos hq, show Ppa.skip (34 :: u) = u from skip_low 34 u (by decide)] at CM
        have HX : Kept (T = .ok u) := ⟨by rw [← H1.out, mustL_one_ok]⟩
        clear hh hq
        go_wp2_with (go_at_call 58; refine CM.out.mono ?_; rintro e w6 ⟨rfl, hP6, hg6⟩)
        go_end0
        exact ⟨G.out.trans hg6, by rw [HX.out]; exact ⟨rfl, hP6⟩⟩
      · have hq : ¬ Ppa.peek r' = 34 := fun e => hh ((peek_is 34 (by decide) _).1 e)
        have CM := Kept.mk (may_r 34 (by decide) hP)
        rw [decide_eq_false hq, if_neg hq] at CM
        have HX : Kept (T = .error r') := ⟨by rw [← H1.out, mustL_one_no hh]⟩
        clear hh hq
        go_wp2_with (first | (go_at_call 58; refine CM.out.mono ?_; rintro e w6 ⟨rfl, hP6, hg6⟩; have G6 := Kept.mk (G.out.trans hg6); clear hg6) | (go_at_call 61; refine (no_r hP6).mono ?_; rintro e w7 ⟨rfl, rfl⟩))
        exact ⟨rfl, G6.out, by rw [HX.out]; exact ⟨rfl, hP6.len⟩⟩
set_option maxRecDepth 100000 in
set_option maxHeartbeats 4000000 in
theorem quoted_39 {B b : Nat} {s : ByteArray} {x : List Value} {r r1 t : Ppa.Bs} {w : World} (a : ByteArray) (ha : ∀ c ∈ a.data.toList, c.toNat < 128) (h : Pa B b s x r w) (h1 : Ppa.mustL [61] (Ppa.blanksL r) = .ok r1) (h2 : Ppa.blanksL r1 = 39 :: t) :
    Calls Tryz.prog 83 #[.pointer (some ⟨b, 0, none⟩), .string a] w fun e w' => Ways B b s x w (.tuple #[]) (quotE 39 a.data.toList t) e w' := by
  have hlt := h.row.lt
  have hB0 : B ≤ w.heap.size := h.ev.le
  have hsm := h.small
  generalize hT : (quotE 39 a.data.toList t) = T
  have K1 := Kept.mk h1
  have K2 := Kept.mk h2
  have HT : Kept (Ppa.blanksL r1 = 39 :: t → (quotE 39 (a.data.toList.drop 0) t) = T) := ⟨fun _ => hT⟩
  have HP : Kept (Ppa.peek (39 :: t) = 39) := ⟨(peek_is 39 (by decide) _).2 rfl⟩
  have TG0 : Kept True := ⟨trivial⟩
  clear h1 h2 hT
  go_enter Tryz.func83, Tryz.ntmps83
  go_wp2_with (first | (go_at_call 56; clear TG0; refine (blanks_r h).mono ?_; rintro e w1 ⟨rfl, H1, hg1⟩; have G1 := Kept.mk hg1; clear hg1) | (go_at_call 57; refine (must_ok [61] (by decide) H1 K1.out).mono ?_; rintro e w2 ⟨rfl, H2, hg2⟩; have G2 := Kept.mk (G1.out.trans hg2); clear hg2) | (go_at_call 56; refine (blanks_r H2).mono ?_; rintro e w3 ⟨rfl, H3, hg3⟩; rw [K2.out] at H3; have G3 := Kept.mk (G2.out.trans hg3); clear hg3) | (go_at_call 67; refine (peek_r H3).mono ?_; rintro e w4 ⟨rfl, hb4⟩; rw [HP.out]; have H4 := H3.below hb4; have G4 := Kept.mk (G3.out.trans (grown_of_below hb4 (some b))); clear hb4; obtain ⟨k, hk, c1⟩ := H4.cell; have f1 := H4.row.unf 1; have k0 : (0 : Int) ≤ (k : Int) := (by omega); have k1 : (k : Int) ≤ 65536 := (by omega); have H5 := H4.put (r' := t) ((List.suffix_cons _ _).trans H4.suf) (v := (k : Int) + 1) (by simp at hk ⊢; omega); have G5 := Kept.mk (grown_set G4.out 1 (.int .i64 ((k : Int) + 1)))))
  obtain ⟨W0, hW0⟩ : ∃ W, w4.setCell ⟨b, 1, none⟩ (.int .i64 ((k : Int) + 1)) = W := ⟨_, rfl⟩
  have hz0 : w4.heap.size = W0.heap.size := by rw [← hW0]; simp
  rw [hW0] at H5 G5
  simp only [hW0, hz0]
  have hbW : b < W0.heap.size := H5.row.lt
  have hBW : B ≤ W0.heap.size := H5.ev.le
  have HT2 := Kept.mk (HT.out K2.out)
  have hwW : w.heap.size ≤ W0.heap.size := G5.out.size
  clear H1 H2 H3 H4 c1 f1 hk k0 k1 HP K1 K2 HT hW0 hz0
  go_loopg [6, 7] a.size (fun g _ _ wx => ∃ (pos : Nat) (r' : Ppa.Bs), wx.heap[W0.heap.size]? = some (.stringIter a pos) ∧ Pa B b s x r' wx ∧ Kept (w.grownBy wx (some b)) ∧ Kept (quotE 39 (a.data.toList.drop pos) r' = T) ∧ a.size ≤ pos + g)
  case atStart => exact ⟨0, t, World.iter_heap W0 a 0, H5.below ((Below.refl _ W0).alloc (Nat.le_refl _) _), ⟨G5.out.trans (grown_of_below ((Below.refl _ W0).alloc (Nat.le_refl _) _) _)⟩, HT2, by omega⟩
  case round =>
    obtain ⟨pos, r', hit, hP, G, HE, hle⟩ := hrel
    have hsz : W0.heap.size < wr.heap.size := (Array.getElem?_eq_some_iff.1 hit).1
    clear H5 G5 HT2 h
    by_cases hp : pos < a.size
    · obtain ⟨g, rfl⟩ : ∃ g, gk = g + 1 := ⟨gk - 1, by omega⟩
      obtain ⟨c, hc, hdr, hdec⟩ := low_at a ha pos hp
      have hnx : ∀ ty, (Instr.next (.pointer (some ⟨W0.heap.size, 0, none⟩)) true ty).run Tryz.prog wr = _ := fun ty => Lib.run_next_any_at wr W0.heap.size a pos ty hit hp
      rw [hdec] at hnx
      have hit2 := Lib.iterAt_heap wr W0.heap.size a pos (pos + 1) hit
      have hP2 := hP.iter (k := W0.heap.size) hBW (by omega) a (pos + 1)
      have hG2 : w.grownBy (wr.iterAt W0.heap.size a (pos + 1)) (some b) := grown_iter2 G.out a (pos + 1) hwW
      obtain ⟨W, hWd⟩ : ∃ W, wr.iterAt W0.heap.size a (pos + 1) = W := ⟨_, rfl⟩
      rw [hWd] at hnx hit2 hP2 hG2
      have hWs : W0.heap.size < W.heap.size := (Array.getElem?_eq_some_iff.1 hit2).1
      have hpk := quot_peek hc r'
      have h1 := HE.out
      rw [hdr] at h1
      have HG2 := Kept.mk hG2
      have c0 : (0 : Int) ≤ (c.toNat : Int) := by omega
      have c7 : (c.toNat : Int) < 128 := by omega
      clear HE hdr hdec G hG2 hit hP hWd
      by_cases hq : Ppa.peek r' = (c.toNat : Int) ∨ (97 ≤ (c.toNat : Int) ∧ Ppa.peek r' = (c.toNat : Int) - 97 + 65)
      · obtain ⟨y, u, rfl, hy⟩ := hpk.1 hq
        rw [quotE_eq hy] at h1
        have H2 := Kept.mk h1
        clear hy hpk h1
        generalize hPP : Ppa.peek (y :: u) = X at hq
        have HX := Kept.mk hPP
        clear hPP
        generalize (c.toNat : Int) = C at *
        by_cases hq1 : X = C
        · subst hq1
          clear hq
          go_wp2_with (go_at_call 67; refine (peek_r hP2).mono ?_; rintro e w6 ⟨rfl, hb6⟩; rw [HX.out]; have H6 := hP2.below hb6; have hi6 := (hb6.block _ hWs).trans hit2; have G6 := Kept.mk (HG2.out.trans (grown_of_below hb6 (some b))); clear hb6; obtain ⟨k, hk, c1⟩ := H6.cell; have f1 := H6.row.unf 1; have k0 : (0 : Int) ≤ (k : Int) := (by omega); have k1 : (k : Int) ≤ 65536 := (by omega); have H7 := H6.put (r' := u) ((List.suffix_cons _ _).trans H6.suf) (v := (k : Int) + 1) (by simp at hk ⊢; omega); have G7 := Kept.mk (grown_set G6.out 1 (.int .i64 ((k : Int) + 1))))
          go_roundg g
          case measure => omega
          case rel => exact ⟨pos + 1, u, (Below.heap_setCell _ _ _ _ (by simp; omega)).trans hi6, H7, G7, H2, by omega⟩
        · have hq2 : 97 ≤ C ∧ X = C - 97 + 65 := hq.resolve_left hq1
          obtain ⟨q3, q4⟩ := hq2
          have q5 : (X != C) = true := by simpa using hq1
          have q6 : ¬ C < 97 := by omega
          have q7 : (X != C - 97 + 65) = false := by simp; omega
          have q8 : IntKind.i32.wrap (C - 97) = C - 97 := by unfold IntKind.wrap; simp [IntKind.bits, IntKind.signed]; omega
          clear hq
          go_wp2_with (go_at_call 67; refine (peek_r hP2).mono ?_; rintro e w6 ⟨rfl, hb6⟩; rw [HX.out]; have H6 := hP2.below hb6; have hi6 := (hb6.block _ hWs).trans hit2; have G6 := Kept.mk (HG2.out.trans (grown_of_below hb6 (some b))); clear hb6; obtain ⟨k, hk, c1⟩ := H6.cell; have f1 := H6.row.unf 1; have k0 : (0 : Int) ≤ (k : Int) := (by omega); have k1 : (k : Int) ≤ 65536 := (by omega); have H7 := H6.put (r' := u) ((List.suffix_cons _ _).trans H6.suf) (v := (k : Int) + 1) (by simp at hk ⊢; omega); have G7 := Kept.mk (grown_set G6.out 1 (.int .i64 ((k : Int) + 1))))
          go_roundg g
          case measure => omega
          case rel => exact ⟨pos + 1, u, (Below.heap_setCell _ _ _ _ (by simp; omega)).trans hi6, H7, G7, H2, by omega⟩
      · have hno : ∀ y u, r' = y :: u → ¬ (y = c ∨ (97 ≤ c ∧ y = c - 32)) := fun y u e e2 => hq (hpk.2 ⟨y, u, e, e2⟩)
        rw [quotE_ne hno] at h1
        have HX := Kept.mk h1.symm
        clear hno hpk h1
        generalize hPP : Ppa.peek r' = X at hq
        have HP := Kept.mk hPP
        clear hPP
        generalize (c.toNat : Int) = C at *
        have q1 : ¬ X = C := fun e => hq (.inl e)
        have q5 : (X != C) = true := by simpa using q1
        by_cases q6 : C < 97
        · clear hq
          go_wp2_with (first | (go_at_call 67; refine (peek_r hP2).mono ?_; rintro e w6 ⟨rfl, hb6⟩; rw [HP.out]; have H6 := hP2.below hb6; have G6 := Kept.mk (HG2.out.trans (grown_of_below hb6 (some b))); clear hb6) | (go_at_call 61; refine (no_r H6).mono ?_; rintro e w7 ⟨rfl, rfl⟩))
          exact ⟨rfl, G6.out, by rw [HX.out]; exact ⟨rfl, H6.len⟩⟩
        · have q7 : ¬ X = C - 97 + 65 := fun e => hq (.inr ⟨by omega, e⟩)
          have q8 : (X != C - 97 + 65) = true := by simpa using q7
          clear hq
          go_wp2_with (first | (go_at_call 67; refine (peek_r hP2).mono ?_; rintro e w6 ⟨rfl, hb6⟩; rw [HP.out]; have H6 := hP2.below hb6; have G6 := Kept.mk (HG2.out.trans (grown_of_below hb6 (some b))); clear hb6) | (go_at_call 61; refine (no_r H6).mono ?_; rintro e w7 ⟨rfl, rfl⟩))
          exact ⟨rfl, G6.out, by rw [HX.out]; exact ⟨rfl, H6.len⟩⟩
    · have hnx : ∀ ty, (Instr.next (.pointer (some ⟨W0.heap.size, 0, none⟩)) true ty).run Tryz.prog wr = _ := fun ty => Lib.run_next_end_at wr W0.heap.size a pos ty hit hp
      have h1 := HE.out
      rw [List.drop_eq_nil_of_le (by rw [size_len]; omega)] at h1
      have H1 : Kept (Ppa.mustL [39] r' = T) := ⟨h1⟩
      clear h1 HE
      by_cases hh : r'.head? = some 39
      · obtain ⟨u, rfl⟩ := head_cons hh
        have hq : Ppa.peek (39 :: u) = 39 := (peek_is 39 (by decide) _).2 rfl
        have CM := Kept.mk (may_r 39 (by decide) hP)
        rw [decide_eq_true hq, if_pos hq, show Ppa.skip (39 :: u) = u from skip_low 39 u (by decide)] at CM
        have HX : Kept (T = .ok u) := ⟨by rw [← H1.out, mustL_one_ok]⟩
        clear hh hq
        go_wp2_with (go_at_call 58; refine CM.out.mono ?_; rintro e w6 ⟨rfl, hP6, hg6⟩)
        go_end0
        exact ⟨G.out.trans hg6, by rw [HX.out]; exact ⟨rfl, hP6⟩⟩
      · have hq : ¬ Ppa.peek r' = 39 := fun e => hh ((peek_is 39 (by decide) _).1 e)
        have CM := Kept.mk (may_r 39 (by decide) hP)
        rw [decide_eq_false hq, if_neg hq] at CM
        have HX : Kept (T = .error r') := ⟨by rw [← H1.out, mustL_one_no hh]⟩
        clear hh hq
        go_wp2_with (first | (go_at_call 58; refine CM.out.mono ?_; rintro e w6 ⟨rfl, hP6, hg6⟩; have G6 := Kept.mk (G.out.trans hg6); clear hg6) | (go_at_call 61; refine (no_r hP6).mono ?_; rintro e w7 ⟨rfl, rfl⟩))
        exact ⟨rfl, G6.out, by rw [HX.out]; exact ⟨rfl, hP6.len⟩⟩
theorem quoted_r {B b : Nat} {s : ByteArray} {x : List Value} {r : Ppa.Bs} {w : World} (a : ByteArray) (ha : ∀ c ∈ a.data.toList, c.toNat < 128) (h : Pa B b s x r w) :
    Calls Tryz.prog 83 #[.pointer (some ⟨b, 0, none⟩), .string a] w fun e w' => Ways B b s x w (.tuple #[]) (Ppa.quotM a.data.toList r) e w' := by
  cases h1 : Ppa.mustL [61] (Ppa.blanksL r) with
  | error r1 =>
    have hq : Ppa.quotM a.data.toList r = .error r1 := by
      unfold Ppa.quotM
      rw [h1]
    rw [hq]
    exact quoted_eq a h h1
  | ok r1 =>
    by_cases h2 : (Ppa.blanksL r1).head? = some 34
    · obtain ⟨t, ht⟩ := head_cons h2
      rw [quotM_some h1 ht (.inl rfl)]
      exact quoted_34 a ha h h1 ht
    · by_cases h3 : (Ppa.blanksL r1).head? = some 39
      · obtain ⟨t, ht⟩ := head_cons h3
        rw [quotM_some h1 ht (.inr rfl)]
        exact quoted_39 a ha h h1 ht
      · rw [quotM_none h1 h2 h3]
        exact quoted_none a h h1 h2 h3
theorem quot_s_ok {B b : Nat} {s : ByteArray} {st : Ppa.St} {r t : Ppa.Bs} {w : World} (l : List UInt8) (hl : l.all (fun c => decide (c.toNat < 128)) = true) (h : Ps B b s st r w) (hm : Ppa.quotM l r = .ok t) :
    Calls Tryz.prog 83 #[.pointer (some ⟨b, 0, none⟩), .string ⟨l.toArray⟩] w fun e w' => e = .returned (.tuple #[]) ∧ Ps B b s st t w' ∧ Bel B b w w' := h.way_ok (fun _ hP => quoted_r ⟨l.toArray⟩ (low_lit hl) hP) hm
theorem quot_s_no {B b : Nat} {s : ByteArray} {st : Ppa.St} {r t : Ppa.Bs} {w : World} (l : List UInt8) (hl : l.all (fun c => decide (c.toNat < 128)) = true) (h : Ps B b s st r w) (hm : Ppa.quotM l r = .error t) :
    Calls Tryz.prog 83 #[.pointer (some ⟨b, 0, none⟩), .string ⟨l.toArray⟩] w fun e w' => Gone (s.size - t.length) e ∧ t.length ≤ s.size ∧ Bel B b w w' := h.way_no (fun _ hP => quoted_r ⟨l.toArray⟩ (low_lit hl) hP) hm
end Go.Proofs.YtemfmidhekdekaaGreatDoor.Wps
namespace Go.Proofs.YtemfmidhekdekaaGreatDoor.Wps
open Go Go.RowKit Go.Proofs.YtemfmidhekdekaaGreatDoor.Kb Go.Proofs.YtemfmidhekdekaaGreatDoor.Wch Go.Proofs.YtemfmidhekdekaaGreatDoor.Emk

set_option maxRecDepth 100000 in
set_option maxHeartbeats 2000000 in
theorem decl_1 {B b : Nat} {s : ByteArray} {st : Ppa.St} {r r1 : Ppa.Bs} {w : World} (h : Ps B b s st r w) (h1 : Ppa.mustL [118, 101, 114, 115, 105, 111, 110] (Ppa.blanksL r) = .error r1) :
    Calls Tryz.prog 55 #[.pointer (some ⟨b, 0, none⟩)] w fun e w' => Gone (s.size - r1.length) e ∧ r1.length ≤ s.size ∧ Bel B b w w' := by
  have B0 : Kept (Bel B b w w) := ⟨Bel.refl _ _ _⟩
  have K1 := Kept.mk h1
  clear h1
  go_enter Tryz.func55, Tryz.ntmps55
  go_wp2_with (first | (go_at_call 56; refine (blanks_s h).mono ?_; rintro e w1 ⟨rfl, H1, hb1⟩; have B1 := Kept.mk (B0.out.trans hb1); clear hb1) | (go_at_call 57; refine (must_s_no [118, 101, 114, 115, 105, 111, 110] (by decide) H1 K1.out).mono ?_; rintro e w2 ⟨rfl, hl2, hb2⟩; have B2 := Kept.mk (B1.out.trans hb2); clear hb2))
  exact ⟨rfl, rfl, hl2, B2.out⟩
set_option maxRecDepth 100000 in
set_option maxHeartbeats 2000000 in
theorem decl_2 {B b : Nat} {s : ByteArray} {st : Ppa.St} {r r1 r2 : Ppa.Bs} {w : World} (h : Ps B b s st r w) (h1 : Ppa.mustL [118, 101, 114, 115, 105, 111, 110] (Ppa.blanksL r) = .ok r1) (h2 : Ppa.quotM [49, 46, 48] r1 = .error r2) :
    Calls Tryz.prog 55 #[.pointer (some ⟨b, 0, none⟩)] w fun e w' => Gone (s.size - r2.length) e ∧ r2.length ≤ s.size ∧ Bel B b w w' := by
  have B0 : Kept (Bel B b w w) := ⟨Bel.refl _ _ _⟩
  have K1 := Kept.mk h1
  have K2 := Kept.mk h2
  clear h1 h2
  go_enter Tryz.func55, Tryz.ntmps55
  go_wp2_with (first | (go_at_call 56; refine (blanks_s h).mono ?_; rintro e w1 ⟨rfl, H1, hb1⟩; have B1 := Kept.mk (B0.out.trans hb1); clear hb1) | (go_at_call 57; refine (must_s_ok [118, 101, 114, 115, 105, 111, 110] (by decide) H1 K1.out).mono ?_; rintro e w2 ⟨rfl, H2, hb2⟩; have B2 := Kept.mk (B1.out.trans hb2); clear hb2) | (go_at_call 83; refine (quot_s_no [49, 46, 48] (by decide) H2 K2.out).mono ?_; rintro e w3 ⟨rfl, hl3, hb3⟩; have B3 := Kept.mk (B2.out.trans hb3); clear hb3))
  exact ⟨rfl, rfl, hl3, B3.out⟩
set_option maxRecDepth 100000 in
set_option maxHeartbeats 2000000 in
theorem decl_3 {B b : Nat} {s : ByteArray} {st : Ppa.St} {r r1 r2 r5 : Ppa.Bs} {w : World} (h : Ps B b s st r w) (h1 : Ppa.mustL [118, 101, 114, 115, 105, 111, 110] (Ppa.blanksL r) = .ok r1) (h2 : Ppa.quotM [49, 46, 48] r1 = .ok r2) (hb : blankH r2 = false) (h5 : Ppa.mustL [63, 62] r2 = .ok r5) :
    Calls Tryz.prog 55 #[.pointer (some ⟨b, 0, none⟩)] w fun e w' => e = .returned (.tuple #[]) ∧ Ps B b s st r5 w' ∧ Bel B b w w' := by
  have B0 : Kept (Bel B b w w) := ⟨Bel.refl _ _ _⟩
  have K1 := Kept.mk h1
  have K2 := Kept.mk h2
  have KB := Kept.mk hb
  have K5 := Kept.mk h5
  clear h1 h2 hb h5
  go_enter Tryz.func55, Tryz.ntmps55
  have TG1 : Kept True := ⟨trivial⟩
  go_wp2_with (first | (go_at_call 56; refine (blanks_s h).mono ?_; rintro e w1 ⟨rfl, H1, hb1⟩; have B1 := Kept.mk (B0.out.trans hb1); clear hb1) | (go_at_call 57; clear TG1; refine (must_s_ok [118, 101, 114, 115, 105, 111, 110] (by decide) H1 K1.out).mono ?_; rintro e w2 ⟨rfl, H2, hb2⟩; have B2 := Kept.mk (B1.out.trans hb2); clear hb2) | (go_at_call 83; refine (quot_s_ok [49, 46, 48] (by decide) H2 K2.out).mono ?_; rintro e w3 ⟨rfl, H3, hb3⟩; have B3 := Kept.mk (B2.out.trans hb3); clear hb3) | (go_at_call 84; refine (blank_t H3 KB.out).mono ?_; rintro e w4 ⟨rfl, H4, hb4⟩; have B4 := Kept.mk (B3.out.trans hb4); clear hb4) | (go_at_call 57; refine (must_s_ok [63, 62] (by decide) H4 K5.out).mono ?_; rintro e w5 ⟨rfl, H5, hb5⟩; have B5 := Kept.mk (B4.out.trans hb5); clear hb5))
  go_end0
  exact ⟨rfl, H5, B5.out⟩
set_option maxRecDepth 100000 in
set_option maxHeartbeats 2000000 in
theorem decl_4 {B b : Nat} {s : ByteArray} {st : Ppa.St} {r r1 r2 r5 : Ppa.Bs} {w : World} (h : Ps B b s st r w) (h1 : Ppa.mustL [118, 101, 114, 115, 105, 111, 110] (Ppa.blanksL r) = .ok r1) (h2 : Ppa.quotM [49, 46, 48] r1 = .ok r2) (hb : blankH r2 = false) (h5 : Ppa.mustL [63, 62] r2 = .error r5) :
    Calls Tryz.prog 55 #[.pointer (some ⟨b, 0, none⟩)] w fun e w' => Gone (s.size - r5.length) e ∧ r5.length ≤ s.size ∧ Bel B b w w' := by
  have B0 : Kept (Bel B b w w) := ⟨Bel.refl _ _ _⟩
  have K1 := Kept.mk h1
  have K2 := Kept.mk h2
  have KB := Kept.mk hb
  have K5 := Kept.mk h5
  clear h1 h2 hb h5
  go_enter Tryz.func55, Tryz.ntmps55
  have TG1 : Kept True := ⟨trivial⟩
  go_wp2_with (first | (go_at_call 56; refine (blanks_s h).mono ?_; rintro e w1 ⟨rfl, H1, hb1⟩; have B1 := Kept.mk (B0.out.trans hb1); clear hb1) | (go_at_call 57; clear TG1; refine (must_s_ok [118, 101, 114, 115, 105, 111, 110] (by decide) H1 K1.out).mono ?_; rintro e w2 ⟨rfl, H2, hb2⟩; have B2 := Kept.mk (B1.out.trans hb2); clear hb2) | (go_at_call 83; refine (quot_s_ok [49, 46, 48] (by decide) H2 K2.out).mono ?_; rintro e w3 ⟨rfl, H3, hb3⟩; have B3 := Kept.mk (B2.out.trans hb3); clear hb3) | (go_at_call 84; refine (blank_t H3 KB.out).mono ?_; rintro e w4 ⟨rfl, H4, hb4⟩; have B4 := Kept.mk (B3.out.trans hb4); clear hb4) | (go_at_call 57; refine (must_s_no [63, 62] (by decide) H4 K5.out).mono ?_; rintro e w5 ⟨rfl, hl5, hb5⟩; have B5 := Kept.mk (B4.out.trans hb5); clear hb5))
  exact ⟨rfl, rfl, hl5, B5.out⟩
set_option maxRecDepth 100000 in
set_option maxHeartbeats 2000000 in
theorem decl_5 {B b : Nat} {s : ByteArray} {st : Ppa.St} {r r1 r2 r5 : Ppa.Bs} {w : World} (h : Ps B b s st r w) (h1 : Ppa.mustL [118, 101, 114, 115, 105, 111, 110] (Ppa.blanksL r) = .ok r1) (h2 : Ppa.quotM [49, 46, 48] r1 = .ok r2) (hb : blankH r2 = true) (hq : ¬ Ppa.peek (Ppa.blanksL r2) = 101) (h5 : Ppa.mustL [63, 62] (Ppa.blanksL r2) = .ok r5) :
    Calls Tryz.prog 55 #[.pointer (some ⟨b, 0, none⟩)] w fun e w' => e = .returned (.tuple #[]) ∧ Ps B b s st r5 w' ∧ Bel B b w w' := by
  have B0 : Kept (Bel B b w w) := ⟨Bel.refl _ _ _⟩
  have K1 := Kept.mk h1
  have K2 := Kept.mk h2
  have KB := Kept.mk hb
  have K5 := Kept.mk h5
  clear h1 h2 hb h5
  go_enter Tryz.func55, Tryz.ntmps55
  have TG0 : Kept True := ⟨trivial⟩
  have TG1 : Kept True := ⟨trivial⟩
  go_wp2_with (first | (go_at_call 56; clear TG0; refine (blanks_s h).mono ?_; rintro e w1 ⟨rfl, H1, hb1⟩; have B1 := Kept.mk (B0.out.trans hb1); clear hb1) | (go_at_call 57; clear TG1; refine (must_s_ok [118, 101, 114, 115, 105, 111, 110] (by decide) H1 K1.out).mono ?_; rintro e w2 ⟨rfl, H2, hb2⟩; have B2 := Kept.mk (B1.out.trans hb2); clear hb2) | (go_at_call 83; refine (quot_s_ok [49, 46, 48] (by decide) H2 K2.out).mono ?_; rintro e w3 ⟨rfl, H3, hb3⟩; have B3 := Kept.mk (B2.out.trans hb3); clear hb3) | (go_at_call 84; refine (blank_t H3 KB.out).mono ?_; rintro e w4 ⟨rfl, H4, hb4⟩; have B4 := Kept.mk (B3.out.trans hb4); clear hb4) | (go_at_call 56; refine (blanks_s H4).mono ?_; rintro e w5 ⟨rfl, H5, hb5⟩; have B5 := Kept.mk (B4.out.trans hb5); clear hb5) | (go_at_call 67; refine (peek_t H5).mono ?_; rintro e w6 ⟨rfl, H6, hb6⟩; have B6 := Kept.mk (B5.out.trans hb6); clear hb6) | (go_at_call 57; refine (must_s_ok [63, 62] (by decide) H6 K5.out).mono ?_; rintro e w7 ⟨rfl, H7, hb7⟩; have B7 := Kept.mk (B6.out.trans hb7); clear hb7))
  go_end0
  exact ⟨rfl, H7, B7.out⟩
set_option maxRecDepth 100000 in
set_option maxHeartbeats 2000000 in
theorem decl_6 {B b : Nat} {s : ByteArray} {st : Ppa.St} {r r1 r2 r5 : Ppa.Bs} {w : World} (h : Ps B b s st r w) (h1 : Ppa.mustL [118, 101, 114, 115, 105, 111, 110] (Ppa.blanksL r) = .ok r1) (h2 : Ppa.quotM [49, 46, 48] r1 = .ok r2) (hb : blankH r2 = true) (hq : ¬ Ppa.peek (Ppa.blanksL r2) = 101) (h5 : Ppa.mustL [63, 62] (Ppa.blanksL r2) = .error r5) :
    Calls Tryz.prog 55 #[.pointer (some ⟨b, 0, none⟩)] w fun e w' => Gone (s.size - r5.length) e ∧ r5.length ≤ s.size ∧ Bel B b w w' := by
  have B0 : Kept (Bel B b w w) := ⟨Bel.refl _ _ _⟩
  have K1 := Kept.mk h1
  have K2 := Kept.mk h2
  have KB := Kept.mk hb
  have K5 := Kept.mk h5
  clear h1 h2 hb h5
  go_enter Tryz.func55, Tryz.ntmps55
  have TG0 : Kept True := ⟨trivial⟩
  have TG1 : Kept True := ⟨trivial⟩
  go_wp2_with (first | (go_at_call 56; clear TG0; refine (blanks_s h).mono ?_; rintro e w1 ⟨rfl, H1, hb1⟩; have B1 := Kept.mk (B0.out.trans hb1); clear hb1) | (go_at_call 57; clear TG1; refine (must_s_ok [118, 101, 114, 115, 105, 111, 110] (by decide) H1 K1.out).mono ?_; rintro e w2 ⟨rfl, H2, hb2⟩; have B2 := Kept.mk (B1.out.trans hb2); clear hb2) | (go_at_call 83; refine (quot_s_ok [49, 46, 48] (by decide) H2 K2.out).mono ?_; rintro e w3 ⟨rfl, H3, hb3⟩; have B3 := Kept.mk (B2.out.trans hb3); clear hb3) | (go_at_call 84; refine (blank_t H3 KB.out).mono ?_; rintro e w4 ⟨rfl, H4, hb4⟩; have B4 := Kept.mk (B3.out.trans hb4); clear hb4) | (go_at_call 56; refine (blanks_s H4).mono ?_; rintro e w5 ⟨rfl, H5, hb5⟩; have B5 := Kept.mk (B4.out.trans hb5); clear hb5) | (go_at_call 67; refine (peek_t H5).mono ?_; rintro e w6 ⟨rfl, H6, hb6⟩; have B6 := Kept.mk (B5.out.trans hb6); clear hb6) | (go_at_call 57; refine (must_s_no [63, 62] (by decide) H6 K5.out).mono ?_; rintro e w7 ⟨rfl, hl7, hb7⟩; have B7 := Kept.mk (B6.out.trans hb7); clear hb7))
  exact ⟨rfl, rfl, hl7, B7.out⟩
set_option maxRecDepth 100000 in
set_option maxHeartbeats 2000000 in
theorem decl_7 {B b : Nat} {s : ByteArray} {st : Ppa.St} {r r1 r2 r3 : Ppa.Bs} {w : World} (h : Ps B b s st r w) (h1 : Ppa.mustL [118, 101, 114, 115, 105, 111, 110] (Ppa.blanksL r) = .ok r1) (h2 : Ppa.quotM [49, 46, 48] r1 = .ok r2) (hb : blankH r2 = true) (hp : Ppa.peek (Ppa.blanksL r2) = 101) (h3 : Ppa.mustL [101, 110, 99, 111, 100, 105, 110, 103] (Ppa.blanksL r2) = .error r3) :
    Calls Tryz.prog 55 #[.pointer (some ⟨b, 0, none⟩)] w fun e w' => Gone (s.size - r3.length) e ∧ r3.length ≤ s.size ∧ Bel B b w w' := by
  have B0 : Kept (Bel B b w w) := ⟨Bel.refl _ _ _⟩
  have K1 := Kept.mk h1
  have K2 := Kept.mk h2
  have KB := Kept.mk hb
  have KP := Kept.mk hp
  have K3 := Kept.mk h3
  clear h1 h2 hb hp h3
  go_enter Tryz.func55, Tryz.ntmps55
  have TG0 : Kept True := ⟨trivial⟩
  have TG1 : Kept True := ⟨trivial⟩
  go_wp2_with (first | (go_at_call 56; clear TG0; refine (blanks_s h).mono ?_; rintro e w1 ⟨rfl, H1, hb1⟩; have B1 := Kept.mk (B0.out.trans hb1); clear hb1) | (go_at_call 57; clear TG1; refine (must_s_ok [118, 101, 114, 115, 105, 111, 110] (by decide) H1 K1.out).mono ?_; rintro e w2 ⟨rfl, H2, hb2⟩; have B2 := Kept.mk (B1.out.trans hb2); clear hb2) | (go_at_call 83; refine (quot_s_ok [49, 46, 48] (by decide) H2 K2.out).mono ?_; rintro e w3 ⟨rfl, H3, hb3⟩; have B3 := Kept.mk (B2.out.trans hb3); clear hb3) | (go_at_call 84; refine (blank_t H3 KB.out).mono ?_; rintro e w4 ⟨rfl, H4, hb4⟩; have B4 := Kept.mk (B3.out.trans hb4); clear hb4) | (go_at_call 56; refine (blanks_s H4).mono ?_; rintro e w5 ⟨rfl, H5, hb5⟩; have B5 := Kept.mk (B4.out.trans hb5); clear hb5) | (go_at_call 67; refine (peek_v H5 KP.out).mono ?_; rintro e w6 ⟨rfl, H6, hb6⟩; have B6 := Kept.mk (B5.out.trans hb6); clear hb6) | (go_at_call 57; refine (must_s_no [101, 110, 99, 111, 100, 105, 110, 103] (by decide) H6 K3.out).mono ?_; rintro e w7 ⟨rfl, hl7, hb7⟩; have B7 := Kept.mk (B6.out.trans hb7); clear hb7))
  exact ⟨rfl, rfl, hl7, B7.out⟩
set_option maxRecDepth 100000 in
set_option maxHeartbeats 2000000 in
theorem decl_8 {B b : Nat} {s : ByteArray} {st : Ppa.St} {r r1 r2 r3 r4 : Ppa.Bs} {w : World} (h : Ps B b s st r w) (h1 : Ppa.mustL [118, 101, 114, 115, 105, 111, 110] (Ppa.blanksL r) = .ok r1) (h2 : Ppa.quotM [49, 46, 48] r1 = .ok r2) (hb : blankH r2 = true) (hp : Ppa.peek (Ppa.blanksL r2) = 101) (h3 : Ppa.mustL [101, 110, 99, 111, 100, 105, 110, 103] (Ppa.blanksL r2) = .ok r3) (h4 : Ppa.quotM [117, 116, 102, 45, 56] r3 = .error r4) :
    Calls Tryz.prog 55 #[.pointer (some ⟨b, 0, none⟩)] w fun e w' => Gone (s.size - r4.length) e ∧ r4.length ≤ s.size ∧ Bel B b w w' := by
  have B0 : Kept (Bel B b w w) := ⟨Bel.refl _ _ _⟩
  have K1 := Kept.mk h1
  have K2 := Kept.mk h2
  have KB := Kept.mk hb
  have KP := Kept.mk hp
  have K3 := Kept.mk h3
  have K4 := Kept.mk h4
  clear h1 h2 hb hp h3 h4
  go_enter Tryz.func55, Tryz.ntmps55
  have TG0 : Kept True := ⟨trivial⟩
  have TG1 : Kept True := ⟨trivial⟩
  have TG2 : Kept True := ⟨trivial⟩
  go_wp2_with (first | (go_at_call 56; clear TG0; refine (blanks_s h).mono ?_; rintro e w1 ⟨rfl, H1, hb1⟩; have B1 := Kept.mk (B0.out.trans hb1); clear hb1) | (go_at_call 57; clear TG1; refine (must_s_ok [118, 101, 114, 115, 105, 111, 110] (by decide) H1 K1.out).mono ?_; rintro e w2 ⟨rfl, H2, hb2⟩; have B2 := Kept.mk (B1.out.trans hb2); clear hb2) | (go_at_call 83; clear TG2; refine (quot_s_ok [49, 46, 48] (by decide) H2 K2.out).mono ?_; rintro e w3 ⟨rfl, H3, hb3⟩; have B3 := Kept.mk (B2.out.trans hb3); clear hb3) | (go_at_call 84; refine (blank_t H3 KB.out).mono ?_; rintro e w4 ⟨rfl, H4, hb4⟩; have B4 := Kept.mk (B3.out.trans hb4); clear hb4) | (go_at_call 56; refine (blanks_s H4).mono ?_; rintro e w5 ⟨rfl, H5, hb5⟩; have B5 := Kept.mk (B4.out.trans hb5); clear hb5) | (go_at_call 67; refine (peek_v H5 KP.out).mono ?_; rintro e w6 ⟨rfl, H6, hb6⟩; have B6 := Kept.mk (B5.out.trans hb6); clear hb6) | (go_at_call 57; refine (must_s_ok [101, 110, 99, 111, 100, 105, 110, 103] (by decide) H6 K3.out).mono ?_; rintro e w7 ⟨rfl, H7, hb7⟩; have B7 := Kept.mk (B6.out.trans hb7); clear hb7) | (go_at_call 83; refine (quot_s_no [117, 116, 102, 45, 56] (by decide) H7 K4.out).mono ?_; rintro e w8 ⟨rfl, hl8, hb8⟩; have B8 := Kept.mk (B7.out.trans hb8); clear hb8))
  exact ⟨rfl, rfl, hl8, B8.out⟩
set_option maxRecDepth 100000 in
set_option maxHeartbeats 2000000 in
theorem decl_9 {B b : Nat} {s : ByteArray} {st : Ppa.St} {r r1 r2 r3 r4 r5 : Ppa.Bs} {w : World} (h : Ps B b s st r w) (h1 : Ppa.mustL [118, 101, 114, 115, 105, 111, 110] (Ppa.blanksL r) = .ok r1) (h2 : Ppa.quotM [49, 46, 48] r1 = .ok r2) (hb : blankH r2 = true) (hp : Ppa.peek (Ppa.blanksL r2) = 101) (h3 : Ppa.mustL [101, 110, 99, 111, 100, 105, 110, 103] (Ppa.blanksL r2) = .ok r3) (h4 : Ppa.quotM [117, 116, 102, 45, 56] r3 = .ok r4) (h5 : Ppa.mustL [63, 62] (Ppa.blanksL r4) = .ok r5) :
    Calls Tryz.prog 55 #[.pointer (some ⟨b, 0, none⟩)] w fun e w' => e = .returned (.tuple #[]) ∧ Ps B b s st r5 w' ∧ Bel B b w w' := by
  have B0 : Kept (Bel B b w w) := ⟨Bel.refl _ _ _⟩
  have K1 := Kept.mk h1
  have K2 := Kept.mk h2
  have KB := Kept.mk hb
  have KP := Kept.mk hp
  have K3 := Kept.mk h3
  have K4 := Kept.mk h4
  have K5 := Kept.mk h5
  clear h1 h2 hb hp h3 h4 h5
  go_enter Tryz.func55, Tryz.ntmps55
  have TG0 : Kept True := ⟨trivial⟩
  have TG1 : Kept True := ⟨trivial⟩
  have TG2 : Kept True := ⟨trivial⟩
  have TG4 : Kept True := ⟨trivial⟩
  have TG6 : Kept True := ⟨trivial⟩
  go_wp2_with (first | (go_at_call 56; clear TG0; refine (blanks_s h).mono ?_; rintro e w1 ⟨rfl, H1, hb1⟩; have B1 := Kept.mk (B0.out.trans hb1); clear hb1) | (go_at_call 57; clear TG1; refine (must_s_ok [118, 101, 114, 115, 105, 111, 110] (by decide) H1 K1.out).mono ?_; rintro e w2 ⟨rfl, H2, hb2⟩; have B2 := Kept.mk (B1.out.trans hb2); clear hb2) | (go_at_call 83; clear TG2; refine (quot_s_ok [49, 46, 48] (by decide) H2 K2.out).mono ?_; rintro e w3 ⟨rfl, H3, hb3⟩; have B3 := Kept.mk (B2.out.trans hb3); clear hb3) | (go_at_call 84; refine (blank_t H3 KB.out).mono ?_; rintro e w4 ⟨rfl, H4, hb4⟩; have B4 := Kept.mk (B3.out.trans hb4); clear hb4) | (go_at_call 56; clear TG4; refine (blanks_s H4).mono ?_; rintro e w5 ⟨rfl, H5, hb5⟩; have B5 := Kept.mk (B4.out.trans hb5); clear hb5) | (go_at_call 67; refine (peek_v H5 KP.out).mono ?_; rintro e w6 ⟨rfl, H6, hb6⟩; have B6 := Kept.mk (B5.out.trans hb6); clear hb6) | (go_at_call 57; clear TG6; refine (must_s_ok [101, 110, 99, 111, 100, 105, 110, 103] (by decide) H6 K3.out).mono ?_; rintro e w7 ⟨rfl, H7, hb7⟩; have B7 := Kept.mk (B6.out.trans hb7); clear hb7) | (go_at_call 83; refine (quot_s_ok [117, 116, 102, 45, 56] (by decide) H7 K4.out).mono ?_; rintro e w8 ⟨rfl, H8, hb8⟩; have B8 := Kept.mk (B7.out.trans hb8); clear hb8) | (go_at_call 56; refine (blanks_s H8).mono ?_; rintro e w9 ⟨rfl, H9, hb9⟩; have B9 := Kept.mk (B8.out.trans hb9); clear hb9) | (go_at_call 57; refine (must_s_ok [63, 62] (by decide) H9 K5.out).mono ?_; rintro e w10 ⟨rfl, H10, hb10⟩; have B10 := Kept.mk (B9.out.trans hb10); clear hb10))
  go_end0
  exact ⟨rfl, H10, B10.out⟩
set_option maxRecDepth 100000 in
set_option maxHeartbeats 2000000 in
theorem decl_0 {B b : Nat} {s : ByteArray} {st : Ppa.St} {r r1 r2 r3 r4 r5 : Ppa.Bs} {w : World} (h : Ps B b s st r w) (h1 : Ppa.mustL [118, 101, 114, 115, 105, 111, 110] (Ppa.blanksL r) = .ok r1) (h2 : Ppa.quotM [49, 46, 48] r1 = .ok r2) (hb : blankH r2 = true) (hp : Ppa.peek (Ppa.blanksL r2) = 101) (h3 : Ppa.mustL [101, 110, 99, 111, 100, 105, 110, 103] (Ppa.blanksL r2) = .ok r3) (h4 : Ppa.quotM [117, 116, 102, 45, 56] r3 = .ok r4) (h5 : Ppa.mustL [63, 62] (Ppa.blanksL r4) = .error r5) :
    Calls Tryz.prog 55 #[.pointer (some ⟨b, 0, none⟩)] w fun e w' => Gone (s.size - r5.length) e ∧ r5.length ≤ s.size ∧ Bel B b w w' := by
  have B0 : Kept (Bel B b w w) := ⟨Bel.refl _ _ _⟩
  have K1 := Kept.mk h1
  have K2 := Kept.mk h2
  have KB := Kept.mk hb
  have KP := Kept.mk hp
  have K3 := Kept.mk h3
  have K4 := Kept.mk h4
  have K5 := Kept.mk h5
  clear h1 h2 hb hp h3 h4 h5
  go_enter Tryz.func55, Tryz.ntmps55
  have TG0 : Kept True := ⟨trivial⟩
  have TG1 : Kept True := ⟨trivial⟩
  have TG2 : Kept True := ⟨trivial⟩
  have TG4 : Kept True := ⟨trivial⟩
  have TG6 : Kept True := ⟨trivial⟩
  go_wp2_with (first | (go_at_call 56; clear TG0; refine (blanks_s h).mono ?_; rintro e w1 ⟨rfl, H1, hb1⟩; have B1 := Kept.mk (B0.out.trans hb1); clear hb1) | (go_at_call 57; clear TG1; refine (must_s_ok [118, 101, 114, 115, 105, 111, 110] (by decide) H1 K1.out).mono ?_; rintro e w2 ⟨rfl, H2, hb2⟩; have B2 := Kept.mk (B1.out.trans hb2); clear hb2) | (go_at_call 83; clear TG2; refine (quot_s_ok [49, 46, 48] (by decide) H2 K2.out).mono ?_; rintro e w3 ⟨rfl, H3, hb3⟩; have B3 := Kept.mk (B2.out.trans hb3); clear hb3) | (go_at_call 84; refine (blank_t H3 KB.out).mono ?_; rintro e w4 ⟨rfl, H4, hb4⟩; have B4 := Kept.mk (B3.out.trans hb4); clear hb4) | (go_at_call 56; clear TG4; refine (blanks_s H4).mono ?_; rintro e w5 ⟨rfl, H5, hb5⟩; have B5 := Kept.mk (B4.out.trans hb5); clear hb5) | (go_at_call 67; refine (peek_v H5 KP.out).mono ?_; rintro e w6 ⟨rfl, H6, hb6⟩; have B6 := Kept.mk (B5.out.trans hb6); clear hb6) | (go_at_call 57; clear TG6; refine (must_s_ok [101, 110, 99, 111, 100, 105, 110, 103] (by decide) H6 K3.out).mono ?_; rintro e w7 ⟨rfl, H7, hb7⟩; have B7 := Kept.mk (B6.out.trans hb7); clear hb7) | (go_at_call 83; refine (quot_s_ok [117, 116, 102, 45, 56] (by decide) H7 K4.out).mono ?_; rintro e w8 ⟨rfl, H8, hb8⟩; have B8 := Kept.mk (B7.out.trans hb8); clear hb8) | (go_at_call 56; refine (blanks_s H8).mono ?_; rintro e w9 ⟨rfl, H9, hb9⟩; have B9 := Kept.mk (B8.out.trans hb9); clear hb9) | (go_at_call 57; refine (must_s_no [63, 62] (by decide) H9 K5.out).mono ?_; rintro e w10 ⟨rfl, hl10, hb10⟩; have B10 := Kept.mk (B9.out.trans hb10); clear hb10))
  exact ⟨rfl, rfl, hl10, B10.out⟩
theorem decl_ok {B b : Nat} {s : ByteArray} {st : Ppa.St} {r t : Ppa.Bs} {w : World} (h : Ps B b s st r w) (hd : Ppa.declM r = .ok t) :
    Calls Tryz.prog 55 #[.pointer (some ⟨b, 0, none⟩)] w fun e w' => e = .returned (.tuple #[]) ∧ Ps B b s st t w' ∧ Bel B b w w' := by
  unfold Ppa.declM at hd
  cases h1 : Ppa.mustL [118, 101, 114, 115, 105, 111, 110] (Ppa.blanksL r) with
  | error r1 => rw [h1] at hd; cases hd
  | ok r1 =>
    rw [h1] at hd
    dsimp only at hd
    cases h2 : Ppa.quotM [49, 46, 48] r1 with
    | error r2 => rw [h2] at hd; cases hd
    | ok r2 =>
      rw [h2] at hd
      dsimp only at hd
      have hd : (if blankH r2 = true ∧ (Ppa.blanksL r2).head? = some 101 then _ else _) = _ := hd
      cases hb : blankH r2 with
      | false =>
        rw [if_neg (by rw [hb]; rintro ⟨h, _⟩; cases h), blanksL_of_false hb] at hd
        exact decl_3 h h1 h2 hb hd
      | true =>
        by_cases hh : (Ppa.blanksL r2).head? = some 101
        · have hp : Ppa.peek (Ppa.blanksL r2) = 101 := (peek_is 101 (by decide) _).2 hh
          rw [if_pos ⟨hb, hh⟩] at hd
          cases h3 : Ppa.mustL [101, 110, 99, 111, 100, 105, 110, 103] (Ppa.blanksL r2) with
          | error r3 => rw [h3] at hd; cases hd
          | ok r3 =>
            rw [h3] at hd
            dsimp only at hd
            cases h4 : Ppa.quotM [117, 116, 102, 45, 56] r3 with
            | error r4 => rw [h4] at hd; cases hd
            | ok r4 =>
              rw [h4] at hd
              dsimp only at hd
              exact decl_9 h h1 h2 hb hp h3 h4 hd
        · rw [if_neg (fun h => hh h.2)] at hd
          exact decl_5 h h1 h2 hb (fun e => hh ((peek_is 101 (by decide) _).1 e)) hd
theorem decl_no {B b : Nat} {s : ByteArray} {st : Ppa.St} {r t : Ppa.Bs} {w : World} (h : Ps B b s st r w) (hd : Ppa.declM r = .error t) :
    Calls Tryz.prog 55 #[.pointer (some ⟨b, 0, none⟩)] w fun e w' => Gone (s.size - t.length) e ∧ t.length ≤ s.size ∧ Bel B b w w' := by
  unfold Ppa.declM at hd
  cases h1 : Ppa.mustL [118, 101, 114, 115, 105, 111, 110] (Ppa.blanksL r) with
  | error r1 => rw [h1] at hd; injection hd with hd; subst hd; exact decl_1 h h1
  | ok r1 =>
    rw [h1] at hd
    dsimp only at hd
    cases h2 : Ppa.quotM [49, 46, 48] r1 with
    | error r2 => rw [h2] at hd; injection hd with hd; subst hd; exact decl_2 h h1 h2
    | ok r2 =>
      rw [h2] at hd
      dsimp only at hd
      have hd : (if blankH r2 = true ∧ (Ppa.blanksL r2).head? = some 101 then _ else _) = _ := hd
      cases hb : blankH r2 with
      | false =>
        rw [if_neg (by rw [hb]; rintro ⟨h, _⟩; cases h), blanksL_of_false hb] at hd
        exact decl_4 h h1 h2 hb hd
      | true =>
        by_cases hh : (Ppa.blanksL r2).head? = some 101
        · have hp : Ppa.peek (Ppa.blanksL r2) = 101 := (peek_is 101 (by decide) _).2 hh
          rw [if_pos ⟨hb, hh⟩] at hd
          cases h3 : Ppa.mustL [101, 110, 99, 111, 100, 105, 110, 103] (Ppa.blanksL r2) with
          | error r3 => rw [h3] at hd; injection hd with hd; subst hd; exact decl_7 h h1 h2 hb hp h3
          | ok r3 =>
            rw [h3] at hd
            dsimp only at hd
            cases h4 : Ppa.quotM [117, 116, 102, 45, 56] r3 with
            | error r4 => rw [h4] at hd; injection hd with hd; subst hd; exact decl_8 h h1 h2 hb hp h3 h4
            | ok r4 =>
              rw [h4] at hd
              dsimp only at hd
              exact decl_0 h h1 h2 hb hp h3 h4 hd
        · rw [if_neg (fun h => hh h.2)] at hd
          exact decl_6 h h1 h2 hb (fun e => hh ((peek_is 101 (by decide) _).1 e)) hd
end Go.Proofs.YtemfmidhekdekaaGreatDoor.Wps
namespace Go.Proofs.YtemfmidhekdekaaGreatDoor.Wps
open Go Go.RowKit Go.Proofs.YtemfmidhekdekaaGreatDoor.Kb Go.Proofs.YtemfmidhekdekaaGreatDoor.Wch Go.Proofs.YtemfmidhekdekaaGreatDoor.Emk

/-- how a whole reading ends -/
def WaysD (B b : Nat) (s : ByteArray) (w : World) (o : Except Ppa.Bs Ppa.St) (e : Ending) (w' : World) : Prop :=
  Bel B b w w' ∧ match o with
    | .ok st => e = .returned (.tuple #[]) ∧ ∃ r, Ps B b s st r w'
    | .error r => Gone (s.size - r.length) e ∧ r.length ≤ s.size
theorem Ps.c0 {B b : Nat} {s : ByteArray} {st : Ppa.St} {r : Ppa.Bs} {w : World} (h : Ps B b s st r w) : w.cell? ⟨b, 0, none⟩ = some (.string s) := by obtain ⟨A, c, p, v, hx⟩ := h.px; exact hx.c0
def xmlW : Ppa.Bs := [60, 63, 120, 109, 108]
/-- what stands behind <?xml, or all -/
def restL (l : Ppa.Bs) : Ppa.Bs := if Lib.hasPrefix l xmlW = true then l.drop 5 else l
theorem cut_call (s : ByteArray) (w : World) : Calls Tryz.prog 53 #[.string s, .string ⟨#[60, 63, 120, 109, 108]⟩] w fun e w' => e = .returned (.tuple #[.string ⟨(restL s.data.toList).toArray⟩, .bool (Lib.hasPrefix s.data.toList xmlW)]) ∧ w' = w := by
  have h := Any.strings_CutPrefix Tryz.lays103 s ⟨#[60, 63, 120, 109, 108]⟩ w
  refine h.mono ?_
  rintro e w' ⟨rfl, hw⟩
  refine ⟨?_, hw⟩
  have e1 : Lib.trimPrefix s.data.toList ((⟨#[60, 63, 120, 109, 108]⟩ : ByteArray).data.toList) = restL s.data.toList := rfl
  rw [e1]
  rfl
theorem blank1_call (x : UInt8) (w : World) : Calls Tryz.prog 54 #[.string ⟨#[x]⟩] w fun e w' => e = .returned (.bool (Pch.blankC x)) ∧ Below w.heap.size w w' := by
  have h := blank_any ⟨#[x]⟩ w (by show (1 : Nat) ≤ _; decide)
  have e : Pch.blankL (⟨#[x]⟩ : ByteArray).data.toList = Pch.blankC x := by simp [Pch.blankL]
  rw [e] at h
  exact h
/-- the parts of a document, one step -/
theorem docF_nil {N f : Nat} {r : Ppa.Bs} {st : Ppa.St} {done : Bool} (h : Ppa.blanksL r = []) : Ppa.docF N (f + 1) done r st = if done = true then some (.ok st) else some (.error []) := by rw [Ppa.docF, h]
theorem docF_pi {N f : Nat} {r t : Ppa.Bs} {st : Ppa.St} {done : Bool} (h : Ppa.blanksL r = 60 :: 63 :: t) : Ppa.docF N (f + 1) done r st = match Ppa.instrM 0 t st with | .error r' => some (.error r') | .ok (r', s') => Ppa.docF N f done r' s' := by rw [Ppa.docF, h]; rfl
theorem docF_bang {N f : Nat} {r t : Ppa.Bs} {st : Ppa.St} {done : Bool} (h : Ppa.blanksL r = 60 :: 33 :: t) : Ppa.docF N (f + 1) done r st = match Ppa.mustL [45] t with
      | .error r' => some (.error r')
      | .ok r1 => (match Ppa.commM 0 r1 st with | .error r' => some (.error r') | .ok (r', s') => Ppa.docF N f done r' s') := by rw [Ppa.docF, h]; rfl
theorem docF_elem {N f : Nat} {r t : Ppa.Bs} {st : Ppa.St} {done : Bool} (h : Ppa.blanksL r = 60 :: t) (h1 : t.head? ≠ some 63) (h2 : t.head? ≠ some 33) : Ppa.docF N (f + 1) done r st = if done = true then some (.error t) else match Ppa.elemF N f 0 1 t st with
      | none => none
      | some (.error r') => some (.error r')
      | some (.ok (r', s')) => Ppa.docF N f true r' s' := by
  rw [Ppa.docF, h]
  split
  · rename_i e; cases e
  · rename_i e; injection e with _ e; rw [e] at h1; exact absurd rfl h1
  · rename_i e; injection e with _ e; rw [e] at h2; exact absurd rfl h2
  · rename_i e; injection e with _ e; subst e; rfl
  · rename_i e; exact absurd rfl (e t)
theorem docF_bad {N f : Nat} {r : Ppa.Bs} {st : Ppa.St} {done : Bool} (h0 : Ppa.blanksL r ≠ []) (h1 : (Ppa.blanksL r).head? ≠ some 60) : Ppa.docF N (f + 1) done r st = some (.error (Ppa.blanksL r)) := by
  rw [Ppa.docF]
  generalize Ppa.blanksL r = z at h0 h1
  split
  · exact absurd rfl h0
  · exact absurd rfl h1
  · exact absurd rfl h1
  · exact absurd rfl h1
  · rfl
/-- where a document stands -/
structure Dc (B b : Nat) (s : ByteArray) (o : Except Ppa.Bs Ppa.St) (g : Nat) (done : Bool) (st : Ppa.St) (r : Ppa.Bs) (w : World) : Prop where
  ps : Ps B b s st r w
  m : Ppa.meas st r ≤ 300000
  tx : Pch.textsL r = true
  eq : Ppa.docF s.size g done r st = some o
set_option maxRecDepth 100000 in
set_option maxHeartbeats 4000000 in
theorem doc_plain {B b F : Nat} {s : ByteArray} {w : World} (h : Ps B b s Ppa.st0 s.data.toList w) (ht : Pch.textsL s.data.toList = true) {o : Except Ppa.Bs Ppa.St} (hx : Lib.hasPrefix s.data.toList xmlW = false) (he : Ppa.docF s.size F false s.data.toList Ppa.stR = some o) :
    Calls Tryz.prog 38 #[.pointer (some ⟨b, 0, none⟩)] w fun e w' => WaysD B b s w o e w' := by
  have B0 : Kept (Bel B b w w) := ⟨Bel.refl _ _ _⟩
  have hsm := h.small
  have hm : Ppa.meas Ppa.st0 s.data.toList ≤ 300000 := by
    unfold Ppa.meas Ppa.st0
    rw [size_len]
    simp
    omega
  have HX0 := Kept.mk hx
  have HE0 := Kept.mk he
  clear hx he
  have hm2 : Kept (Ppa.meas Ppa.stR s.data.toList ≤ 300000) := ⟨by unfold Ppa.meas Ppa.stR; rw [size_len]; simp; omega⟩
  go_enter Tryz.func38, Tryz.ntmps38
  go_wp2_with (first | (go_at_call 52; refine (add_t 1 (by decide) [] [] (-1) h hm).mono ?_; rintro e w1 ⟨rfl, H1, hb1⟩; have B1 := Kept.mk (B0.out.trans hb1); clear hb1; have H1r : Ps B b s Ppa.stR s.data.toList w1 := H1; have d0 := H1r.c0; clear H1) | (go_at_call 53; refine (cut_call s w1).mono ?_; rintro e w2 ⟨rfl, rfl⟩; rw [HX0.out]))
  have HD : Dc B b s o F false Ppa.stR s.data.toList w2 := ⟨H1r, hm2.out, ht, HE0.out⟩
  have BD := B1
  clear B0 H1r d0 hm2 HE0 HX0 hm h
  go_loopg [4] F (fun g x4 wx => ∃ (done : Bool) (st' : Ppa.St) (r' : Ppa.Bs), x4 = .bool done ∧ Dc B b s o g done st' r' wx ∧ Kept (Bel B b w wx))
  case atStart => exact ⟨false, _, _, rfl, HD, BD⟩
  case round =>
    obtain ⟨done, st', r', rfl, V, B0⟩ := hrel
    obtain ⟨g, rfl⟩ : ∃ g, gk = g + 1 := by
      cases gk with
      | zero => have h2 := V.eq; rw [Ppa.docF] at h2; cases h2
      | succ g => exact ⟨g, rfl⟩
    clear HD BD
    have hbs := Ppa.blanksL_suf r'
    have hzm := meas_small hbs V.m
    have hzt := Ppa.blanksL_texts V.tx
    have heq := V.eq
    generalize hz : Ppa.blanksL r' = z at hbs hzm hzt
    have HZ := Kept.mk hz
    cases z with
    | nil =>
      rw [docF_nil hz] at heq
      cases done with
      | true =>
        have HX : Kept (o = .ok st') := ⟨by rw [if_pos rfl] at heq; injection heq with heq; exact heq.symm⟩
        clear heq hz hbs hzm hzt
        go_wp2_with (go_at_call 56; refine (blanks_s V.ps).mono ?_; rintro e w1 ⟨rfl, H1, hb1⟩; have B1 := Kept.mk (B0.out.trans hb1); clear hb1)
        rw [HZ.out] at H1
        have c0 := H1.c0
        obtain ⟨k, hk, c1⟩ := H1.at_
        have i5 : k = s.size := by simpa using hk
        subst i5
        have bx0 := beh_cell c0
        have bx1 := beh_cell c1
        refine wp_region_beh (by kernel_rfl) (by kernel_rfl) ?_
        repeat
          (refine Qw_step (fun K hK => ?_)
           go_simp
           first
             | (refine hK _ ?_; clear hK K)
             | (apply Exists.intro
                refine ⟨fun _ => ?_, hK _ ?_⟩
                (fail)
                clear hK K))
        refine Qw_nil ?_
        rintro w5 ⟨⟨_, hb5⟩, rfl⟩
        have H5 := H1.below hb5
        have B5 := Kept.mk (B1.out.trans (Bel.of hb5 H1.hB))
        clear hb5 bx0 bx1 H1 c0 c1
        go_wp2
        go_end0
        exact ⟨B5.out, by rw [HX.out]; exact ⟨rfl, _, H5⟩⟩
      | false =>
        have HX : Kept (o = .error []) := ⟨by rw [if_neg (by decide)] at heq; injection heq with heq; exact heq.symm⟩
        have KL : Kept (Ppa.mustL [60] [] = .error []) := ⟨rfl⟩
        clear heq hz hbs hzm hzt
        go_wp2_with (go_at_call 56; refine (blanks_s V.ps).mono ?_; rintro e w1 ⟨rfl, H1, hb1⟩; have B1 := Kept.mk (B0.out.trans hb1); clear hb1)
        rw [HZ.out] at H1
        have c0 := H1.c0
        obtain ⟨k, hk, c1⟩ := H1.at_
        have i5 : k = s.size := by simpa using hk
        subst i5
        have bx0 := beh_cell c0
        have bx1 := beh_cell c1
        refine wp_region_beh (by kernel_rfl) (by kernel_rfl) ?_
        repeat
          (refine Qw_step (fun K hK => ?_)
           go_simp
           first
             | (refine hK _ ?_; clear hK K)
             | (apply Exists.intro
                refine ⟨fun _ => ?_, hK _ ?_⟩
                (fail)
                clear hK K))
        refine Qw_nil ?_
        rintro w5 ⟨⟨_, hb5⟩, rfl⟩
        have H5 := H1.below hb5
        have B5 := Kept.mk (B1.out.trans (Bel.of hb5 H1.hB))
        clear hb5 bx0 bx1 H1 c0 c1
        go_wp2_with (go_at_call 57; refine (must_s_no [60] (by decide) H5 KL.out).mono ?_; rintro e w6 ⟨rfl, hl6, hb6⟩; have B6 := Kept.mk (B5.out.trans hb6); clear hb6)
        exact ⟨rfl, B6.out, by rw [HX.out]; exact ⟨rfl, hl6⟩⟩
    | cons y t =>
      by_cases y60 : y = 60
      · subst y60
        have KL : Kept (Ppa.mustL [60] (60 :: t) = .ok t) := ⟨mustL_one_ok 60 t⟩
        have hzm1 := meas_small (List.suffix_cons 60 t) hzm
        have hzt1 := Ppa.texts_low (by decide) hzt
        by_cases h63 : t.head? = some 63
        · obtain ⟨u, rfl⟩ := head_cons h63
          rw [docF_pi hz] at heq
          have hzm2 := meas_small (List.suffix_cons 63 u) hzm1
          have hzt2 := Ppa.texts_low (by decide) hzt1
          cases hin : Ppa.instrM 0 u st' with
          | error r2 =>
            rw [hin] at heq
            have HX : Kept (o = .error r2) := ⟨by injection heq with heq; exact heq.symm⟩
            have KI := Kept.mk hin
            clear heq hz hbs hzm hzt hin h63
            go_wp2_with (go_at_call 56; refine (blanks_s V.ps).mono ?_; rintro e w1 ⟨rfl, H1, hb1⟩; have B1 := Kept.mk (B0.out.trans hb1); clear hb1)
            rw [HZ.out] at H1
            have c0 := H1.c0
            obtain ⟨k, hk, c1⟩ := H1.at_
            have hk1 : k < s.size := by simp at hk; omega
            have k0 : (0 : Int) ≤ (k : Int) := by omega
            have hne : ((k : Int) == (s.size : Int)) = false := by simp; omega
            have bx0 := beh_cell c0
            have bx1 := beh_cell c1
            refine wp_region_beh (by kernel_rfl) (by kernel_rfl) ?_
            repeat
              (refine Qw_step (fun K hK => ?_)
               go_simp
               first
                 | (refine hK _ ?_; clear hK K)
                 | (apply Exists.intro
                    refine ⟨fun _ => ?_, hK _ ?_⟩
                    (fail)
                    clear hK K))
            refine Qw_nil ?_
            rintro w5 ⟨⟨_, hb5⟩, rfl⟩
            have H5 := H1.below hb5
            have B5 := Kept.mk (B1.out.trans (Bel.of hb5 H1.hB))
            clear hb5 bx0 bx1 H1 c0 c1
            go_wp2_with (first | (go_at_call 57; refine (must_s_ok [60] (by decide) H5 KL.out).mono ?_; rintro e w6 ⟨rfl, H6, hb6⟩; have B6 := Kept.mk (B5.out.trans hb6); clear hb6) | (go_at_call 58; refine (may_yes 63 (by decide) H6).mono ?_; rintro e w7 ⟨rfl, H7, hb7⟩; have B7 := Kept.mk (B6.out.trans hb7); clear hb7) | (go_at_call 59; refine (waysS_no (instruction_s 0 H7 hzm2) KI.out).mono ?_; rintro e w8 ⟨rfl, hl8, hb8⟩; have B8 := Kept.mk (B7.out.trans hb8); clear hb8))
            exact ⟨rfl, B8.out, by rw [HX.out]; exact ⟨rfl, hl8⟩⟩
          | ok q2 =>
            obtain ⟨r2, st2⟩ := q2
            rw [hin] at heq
            obtain ⟨a1, a2, a3⟩ := Ppa.instrM_ok hin
            have HE := Kept.mk heq
            have HT2 := Kept.mk (a3 hzt2)
            have HM2 : Kept (Ppa.meas st2 r2 ≤ 300000) := ⟨by omega⟩
            have KI := Kept.mk hin
            clear heq hz hbs hzm hzt hin h63 a1 a2 a3
            go_wp2_with (go_at_call 56; refine (blanks_s V.ps).mono ?_; rintro e w1 ⟨rfl, H1, hb1⟩; have B1 := Kept.mk (B0.out.trans hb1); clear hb1)
            rw [HZ.out] at H1
            have c0 := H1.c0
            obtain ⟨k, hk, c1⟩ := H1.at_
            have hk1 : k < s.size := by simp at hk; omega
            have k0 : (0 : Int) ≤ (k : Int) := by omega
            have hne : ((k : Int) == (s.size : Int)) = false := by simp; omega
            have bx0 := beh_cell c0
            have bx1 := beh_cell c1
            refine wp_region_beh (by kernel_rfl) (by kernel_rfl) ?_
            repeat
              (refine Qw_step (fun K hK => ?_)
               go_simp
               first
                 | (refine hK _ ?_; clear hK K)
                 | (apply Exists.intro
                    refine ⟨fun _ => ?_, hK _ ?_⟩
                    (fail)
                    clear hK K))
            refine Qw_nil ?_
            rintro w5 ⟨⟨_, hb5⟩, rfl⟩
            have H5 := H1.below hb5
            have B5 := Kept.mk (B1.out.trans (Bel.of hb5 H1.hB))
            clear hb5 bx0 bx1 H1 c0 c1
            go_wp2_with (first | (go_at_call 57; refine (must_s_ok [60] (by decide) H5 KL.out).mono ?_; rintro e w6 ⟨rfl, H6, hb6⟩; have B6 := Kept.mk (B5.out.trans hb6); clear hb6) | (go_at_call 58; refine (may_yes 63 (by decide) H6).mono ?_; rintro e w7 ⟨rfl, H7, hb7⟩; have B7 := Kept.mk (B6.out.trans hb7); clear hb7) | (go_at_call 59; refine (waysS_ok (instruction_s 0 H7 hzm2) KI.out).mono ?_; rintro e w8 ⟨rfl, H8, hb8⟩; have B8 := Kept.mk (B7.out.trans hb8); clear hb8))
            go_roundg g
            case measure => omega
            case rel => exact ⟨done, st2, r2, rfl, ⟨H8, HM2.out, HT2.out, HE.out⟩, B8⟩
        · by_cases h33 : t.head? = some 33
          · obtain ⟨u, rfl⟩ := head_cons h33
            rw [docF_bang hz] at heq
            have hzm2 := meas_small (List.suffix_cons 33 u) hzm1
            have hzt2 := Ppa.texts_low (by decide) hzt1
            have K63 := Kept.mk h63
            cases hmu : Ppa.mustL [45] u with
            | error r2 =>
              rw [hmu] at heq
              have HX : Kept (o = .error r2) := ⟨by injection heq with heq; exact heq.symm⟩
              have KU := Kept.mk hmu
              clear heq hz hbs hzm hzt hmu h63 h33
              go_wp2_with (go_at_call 56; refine (blanks_s V.ps).mono ?_; rintro e w1 ⟨rfl, H1, hb1⟩; have B1 := Kept.mk (B0.out.trans hb1); clear hb1)
              rw [HZ.out] at H1
              have c0 := H1.c0
              obtain ⟨k, hk, c1⟩ := H1.at_
              have hk1 : k < s.size := by simp at hk; omega
              have k0 : (0 : Int) ≤ (k : Int) := by omega
              have hne : ((k : Int) == (s.size : Int)) = false := by simp; omega
              have bx0 := beh_cell c0
              have bx1 := beh_cell c1
              refine wp_region_beh (by kernel_rfl) (by kernel_rfl) ?_
              repeat
                (refine Qw_step (fun K hK => ?_)
                 go_simp
                 first
                   | (refine hK _ ?_; clear hK K)
                   | (apply Exists.intro
                      refine ⟨fun _ => ?_, hK _ ?_⟩
                      (fail)
                      clear hK K))
              refine Qw_nil ?_
              rintro w5 ⟨⟨_, hb5⟩, rfl⟩
              have H5 := H1.below hb5
              have B5 := Kept.mk (B1.out.trans (Bel.of hb5 H1.hB))
              clear hb5 bx0 bx1 H1 c0 c1
              have TG0 : Kept True := ⟨trivial⟩
              have TG1 : Kept True := ⟨trivial⟩
              go_wp2_with (first | (go_at_call 57; clear TG0; refine (must_s_ok [60] (by decide) H5 KL.out).mono ?_; rintro e w6 ⟨rfl, H6, hb6⟩; have B6 := Kept.mk (B5.out.trans hb6); clear hb6) | (go_at_call 58; clear TG1; refine (may_not 63 (by decide) K63.out H6).mono ?_; rintro e w7 ⟨rfl, H7, hb7⟩; have B7 := Kept.mk (B6.out.trans hb7); clear hb7) | (go_at_call 58; refine (may_yes 33 (by decide) H7).mono ?_; rintro e w8 ⟨rfl, H8, hb8⟩; have B8 := Kept.mk (B7.out.trans hb8); clear hb8) | (go_at_call 57; refine (must_s_no [45] (by decide) H8 KU.out).mono ?_; rintro e w9 ⟨rfl, hl9, hb9⟩; have B9 := Kept.mk (B8.out.trans hb9); clear hb9))
              exact ⟨rfl, B9.out, by rw [HX.out]; exact ⟨rfl, hl9⟩⟩
            | ok r1 =>
              rw [hmu] at heq
              dsimp only at heq
              have KU := Kept.mk hmu
              have hzm3 := meas_small (Ppa.mustL_suf hmu) hzm2
              have hzt3 := mustL_texts _ _ _ (by decide) hzt2 hmu
              cases hco : Ppa.commM 0 r1 st' with
              | error r2 =>
                rw [hco] at heq
                have HX : Kept (o = .error r2) := ⟨by injection heq with heq; exact heq.symm⟩
                have KC := Kept.mk hco
                clear heq hz hbs hzm hzt hmu h63 h33 hco
                go_wp2_with (go_at_call 56; refine (blanks_s V.ps).mono ?_; rintro e w1 ⟨rfl, H1, hb1⟩; have B1 := Kept.mk (B0.out.trans hb1); clear hb1)
                rw [HZ.out] at H1
                have c0 := H1.c0
                obtain ⟨k, hk, c1⟩ := H1.at_
                have hk1 : k < s.size := by simp at hk; omega
                have k0 : (0 : Int) ≤ (k : Int) := by omega
                have hne : ((k : Int) == (s.size : Int)) = false := by simp; omega
                have bx0 := beh_cell c0
                have bx1 := beh_cell c1
                refine wp_region_beh (by kernel_rfl) (by kernel_rfl) ?_
                repeat
                  (refine Qw_step (fun K hK => ?_)
                   go_simp
                   first
                     | (refine hK _ ?_; clear hK K)
                     | (apply Exists.intro
                        refine ⟨fun _ => ?_, hK _ ?_⟩
                        (fail)
                        clear hK K))
                refine Qw_nil ?_
                rintro w5 ⟨⟨_, hb5⟩, rfl⟩
                have H5 := H1.below hb5
                have B5 := Kept.mk (B1.out.trans (Bel.of hb5 H1.hB))
                clear hb5 bx0 bx1 H1 c0 c1
                have TG0 : Kept True := ⟨trivial⟩
                have TG1 : Kept True := ⟨trivial⟩
                go_wp2_with (first | (go_at_call 57; clear TG0; refine (must_s_ok [60] (by decide) H5 KL.out).mono ?_; rintro e w6 ⟨rfl, H6, hb6⟩; have B6 := Kept.mk (B5.out.trans hb6); clear hb6) | (go_at_call 58; clear TG1; refine (may_not 63 (by decide) K63.out H6).mono ?_; rintro e w7 ⟨rfl, H7, hb7⟩; have B7 := Kept.mk (B6.out.trans hb7); clear hb7) | (go_at_call 58; refine (may_yes 33 (by decide) H7).mono ?_; rintro e w8 ⟨rfl, H8, hb8⟩; have B8 := Kept.mk (B7.out.trans hb8); clear hb8) | (go_at_call 57; refine (must_s_ok [45] (by decide) H8 KU.out).mono ?_; rintro e w9 ⟨rfl, H9, hb9⟩; have B9 := Kept.mk (B8.out.trans hb9); clear hb9) | (go_at_call 60; refine (waysS_no (comment_s 0 H9 hzm3) KC.out).mono ?_; rintro e w10 ⟨rfl, hl10, hb10⟩; have B10 := Kept.mk (B9.out.trans hb10); clear hb10))
                exact ⟨rfl, B10.out, by rw [HX.out]; exact ⟨rfl, hl10⟩⟩
              | ok q2 =>
                obtain ⟨r2, st2⟩ := q2
                rw [hco] at heq
                obtain ⟨a1, a2, a3⟩ := Ppa.commM_ok hco
                have HE := Kept.mk heq
                have HT2 := Kept.mk (a3 hzt3)
                have HM2 : Kept (Ppa.meas st2 r2 ≤ 300000) := ⟨by omega⟩
                have KC := Kept.mk hco
                clear heq hz hbs hzm hzt hmu h63 h33 hco a1 a2 a3
                go_wp2_with (go_at_call 56; refine (blanks_s V.ps).mono ?_; rintro e w1 ⟨rfl, H1, hb1⟩; have B1 := Kept.mk (B0.out.trans hb1); clear hb1)
                rw [HZ.out] at H1
                have c0 := H1.c0
                obtain ⟨k, hk, c1⟩ := H1.at_
                have hk1 : k < s.size := by simp at hk; omega
                have k0 : (0 : Int) ≤ (k : Int) := by omega
                have hne : ((k : Int) == (s.size : Int)) = false := by simp; omega
                have bx0 := beh_cell c0
                have bx1 := beh_cell c1
                refine wp_region_beh (by kernel_rfl) (by kernel_rfl) ?_
                repeat
                  (refine Qw_step (fun K hK => ?_)
                   go_simp
                   first
                     | (refine hK _ ?_; clear hK K)
                     | (apply Exists.intro
                        refine ⟨fun _ => ?_, hK _ ?_⟩
                        (fail)
                        clear hK K))
                refine Qw_nil ?_
                rintro w5 ⟨⟨_, hb5⟩, rfl⟩
                have H5 := H1.below hb5
                have B5 := Kept.mk (B1.out.trans (Bel.of hb5 H1.hB))
                clear hb5 bx0 bx1 H1 c0 c1
                have TG0 : Kept True := ⟨trivial⟩
                have TG1 : Kept True := ⟨trivial⟩
                go_wp2_with (first | (go_at_call 57; clear TG0; refine (must_s_ok [60] (by decide) H5 KL.out).mono ?_; rintro e w6 ⟨rfl, H6, hb6⟩; have B6 := Kept.mk (B5.out.trans hb6); clear hb6) | (go_at_call 58; clear TG1; refine (may_not 63 (by decide) K63.out H6).mono ?_; rintro e w7 ⟨rfl, H7, hb7⟩; have B7 := Kept.mk (B6.out.trans hb7); clear hb7) | (go_at_call 58; refine (may_yes 33 (by decide) H7).mono ?_; rintro e w8 ⟨rfl, H8, hb8⟩; have B8 := Kept.mk (B7.out.trans hb8); clear hb8) | (go_at_call 57; refine (must_s_ok [45] (by decide) H8 KU.out).mono ?_; rintro e w9 ⟨rfl, H9, hb9⟩; have B9 := Kept.mk (B8.out.trans hb9); clear hb9) | (go_at_call 60; refine (waysS_ok (comment_s 0 H9 hzm3) KC.out).mono ?_; rintro e w10 ⟨rfl, H10, hb10⟩; have B10 := Kept.mk (B9.out.trans hb10); clear hb10))
                go_roundg g
                case measure => omega
                case rel => exact ⟨done, st2, r2, rfl, ⟨H10, HM2.out, HT2.out, HE.out⟩, B10⟩
          · rw [docF_elem hz h63 h33] at heq
            have K63 := Kept.mk h63
            have K33 := Kept.mk h33
            cases done with
            | true =>
              have HX : Kept (o = .error t) := ⟨by rw [if_pos rfl] at heq; injection heq with heq; exact heq.symm⟩
              clear heq hz hbs hzm hzt h63 h33
              go_wp2_with (go_at_call 56; refine (blanks_s V.ps).mono ?_; rintro e w1 ⟨rfl, H1, hb1⟩; have B1 := Kept.mk (B0.out.trans hb1); clear hb1)
              rw [HZ.out] at H1
              have c0 := H1.c0
              obtain ⟨k, hk, c1⟩ := H1.at_
              have hk1 : k < s.size := by simp at hk; omega
              have k0 : (0 : Int) ≤ (k : Int) := by omega
              have hne : ((k : Int) == (s.size : Int)) = false := by simp; omega
              have bx0 := beh_cell c0
              have bx1 := beh_cell c1
              refine wp_region_beh (by kernel_rfl) (by kernel_rfl) ?_
              repeat
                (refine Qw_step (fun K hK => ?_)
                 go_simp
                 first
                   | (refine hK _ ?_; clear hK K)
                   | (apply Exists.intro
                      refine ⟨fun _ => ?_, hK _ ?_⟩
                      (fail)
                      clear hK K))
              refine Qw_nil ?_
              rintro w5 ⟨⟨_, hb5⟩, rfl⟩
              have H5 := H1.below hb5
              have B5 := Kept.mk (B1.out.trans (Bel.of hb5 H1.hB))
              clear hb5 bx0 bx1 H1 c0 c1
              have TG1 : Kept True := ⟨trivial⟩
              go_wp2_with (first | (go_at_call 57; refine (must_s_ok [60] (by decide) H5 KL.out).mono ?_; rintro e w6 ⟨rfl, H6, hb6⟩; have B6 := Kept.mk (B5.out.trans hb6); clear hb6) | (go_at_call 58; clear TG1; refine (may_not 63 (by decide) K63.out H6).mono ?_; rintro e w7 ⟨rfl, H7, hb7⟩; have B7 := Kept.mk (B6.out.trans hb7); clear hb7) | (go_at_call 58; refine (may_not 33 (by decide) K33.out H7).mono ?_; rintro e w8 ⟨rfl, H8, hb8⟩; have B8 := Kept.mk (B7.out.trans hb8); clear hb8) | (go_at_call 61; refine (no_s H8).mono ?_; rintro e w9 ⟨rfl, rfl⟩))
              exact ⟨rfl, B8.out, by rw [HX.out]; exact ⟨rfl, H8.len⟩⟩
            | false =>
              rw [if_neg (by decide)] at heq
              cases hel : Ppa.elemF s.size g 0 1 t st' with
              | none => rw [hel] at heq; cases heq
              | some oe =>
                rw [hel] at heq
                obtain ⟨f', rfl⟩ : ∃ f', g = f' + 1 := by
                  cases g with
                  | zero => unfold Ppa.elemF at hel; cases hel
                  | succ f => exact ⟨f, rfl⟩
                have CE := Kept.mk (fun (wx : World) (hx : Ps B b s st' t wx) (h9 : 1 ≤ s.size - t.length) => element_s (d := 1) 0 (both_s B b s f').1 hx hzm1 hzt1 (by have := hx.len; omega) h9 hel)
                cases oe with
                | error r2 =>
                  have HX : Kept (o = .error r2) := ⟨by injection heq with heq; exact heq.symm⟩
                  clear heq hz hbs hzm hzt h63 h33 hel
                  go_wp2_with (go_at_call 56; refine (blanks_s V.ps).mono ?_; rintro e w1 ⟨rfl, H1, hb1⟩; have B1 := Kept.mk (B0.out.trans hb1); clear hb1)
                  rw [HZ.out] at H1
                  have c0 := H1.c0
                  obtain ⟨k, hk, c1⟩ := H1.at_
                  have hk1 : k < s.size := by simp at hk; omega
                  have k0 : (0 : Int) ≤ (k : Int) := by omega
                  have hne : ((k : Int) == (s.size : Int)) = false := by simp; omega
                  have bx0 := beh_cell c0
                  have bx1 := beh_cell c1
                  refine wp_region_beh (by kernel_rfl) (by kernel_rfl) ?_
                  repeat
                    (refine Qw_step (fun K hK => ?_)
                     go_simp
                     first
                       | (refine hK _ ?_; clear hK K)
                       | (apply Exists.intro
                          refine ⟨fun _ => ?_, hK _ ?_⟩
                          (fail)
                          clear hK K))
                  refine Qw_nil ?_
                  rintro w5 ⟨⟨_, hb5⟩, rfl⟩
                  have H5 := H1.below hb5
                  have B5 := Kept.mk (B1.out.trans (Bel.of hb5 H1.hB))
                  clear hb5 bx0 bx1 H1 c0 c1
                  have hr9 : 1 ≤ s.size - t.length := by simp at hk; omega
                  have TG1 : Kept True := ⟨trivial⟩
                  go_wp2_with (first | (go_at_call 57; refine (must_s_ok [60] (by decide) H5 KL.out).mono ?_; rintro e w6 ⟨rfl, H6, hb6⟩; have B6 := Kept.mk (B5.out.trans hb6); clear hb6) | (go_at_call 58; clear TG1; refine (may_not 63 (by decide) K63.out H6).mono ?_; rintro e w7 ⟨rfl, H7, hb7⟩; have B7 := Kept.mk (B6.out.trans hb7); clear hb7) | (go_at_call 58; refine (may_not 33 (by decide) K33.out H7).mono ?_; rintro e w8 ⟨rfl, H8, hb8⟩; have B8 := Kept.mk (B7.out.trans hb8); clear hb8) | (go_at_call 62; refine (waysS_no (CE.out _ H8 hr9) rfl).mono ?_; rintro e w9 ⟨rfl, hl9, hb9⟩; have B9 := Kept.mk (B8.out.trans hb9); clear hb9))
                  exact ⟨rfl, B9.out, by rw [HX.out]; exact ⟨rfl, hl9⟩⟩
                | ok q2 =>
                  obtain ⟨r2, st2⟩ := q2
                  obtain ⟨a1, a2, a3⟩ := (Ppa.kc_all s.size (f' + 1)).elem 0 1 t st' r2 st2 hel
                  have HE := Kept.mk heq
                  have HT2 := Kept.mk (a3 hzt1)
                  have HM2 : Kept (Ppa.meas st2 r2 ≤ 300000) := ⟨by omega⟩
                  clear heq hz hbs hzm hzt h63 h33 hel a1 a2 a3
                  go_wp2_with (go_at_call 56; refine (blanks_s V.ps).mono ?_; rintro e w1 ⟨rfl, H1, hb1⟩; have B1 := Kept.mk (B0.out.trans hb1); clear hb1)
                  rw [HZ.out] at H1
                  have c0 := H1.c0
                  obtain ⟨k, hk, c1⟩ := H1.at_
                  have hk1 : k < s.size := by simp at hk; omega
                  have k0 : (0 : Int) ≤ (k : Int) := by omega
                  have hne : ((k : Int) == (s.size : Int)) = false := by simp; omega
                  have bx0 := beh_cell c0
                  have bx1 := beh_cell c1
                  refine wp_region_beh (by kernel_rfl) (by kernel_rfl) ?_
                  repeat
                    (refine Qw_step (fun K hK => ?_)
                     go_simp
                     first
                       | (refine hK _ ?_; clear hK K)
                       | (apply Exists.intro
                          refine ⟨fun _ => ?_, hK _ ?_⟩
                          (fail)
                          clear hK K))
                  refine Qw_nil ?_
                  rintro w5 ⟨⟨_, hb5⟩, rfl⟩
                  have H5 := H1.below hb5
                  have B5 := Kept.mk (B1.out.trans (Bel.of hb5 H1.hB))
                  clear hb5 bx0 bx1 H1 c0 c1
                  have hr9 : 1 ≤ s.size - t.length := by simp at hk; omega
                  have TG1 : Kept True := ⟨trivial⟩
                  go_wp2_with (first | (go_at_call 57; refine (must_s_ok [60] (by decide) H5 KL.out).mono ?_; rintro e w6 ⟨rfl, H6, hb6⟩; have B6 := Kept.mk (B5.out.trans hb6); clear hb6) | (go_at_call 58; clear TG1; refine (may_not 63 (by decide) K63.out H6).mono ?_; rintro e w7 ⟨rfl, H7, hb7⟩; have B7 := Kept.mk (B6.out.trans hb7); clear hb7) | (go_at_call 58; refine (may_not 33 (by decide) K33.out H7).mono ?_; rintro e w8 ⟨rfl, H8, hb8⟩; have B8 := Kept.mk (B7.out.trans hb8); clear hb8) | (go_at_call 62; refine (waysS_ok (CE.out _ H8 hr9) rfl).mono ?_; rintro e w9 ⟨rfl, H9, hb9⟩; have B9 := Kept.mk (B8.out.trans hb9); clear hb9))
                  go_roundg (f' + 1)
                  case measure => omega
                  case rel => exact ⟨true, st2, r2, rfl, ⟨H9, HM2.out, HT2.out, HE.out⟩, B9⟩
      · have hh : (Ppa.blanksL r').head? ≠ some 60 := by rw [hz]; intro e; injection e with e; exact y60 e
        rw [docF_bad (by rw [hz]; simp) hh, hz] at heq
        have HX : Kept (o = .error (y :: t)) := ⟨by injection heq with heq; exact heq.symm⟩
        have KL : Kept (Ppa.mustL [60] (y :: t) = .error (y :: t)) := ⟨mustL_one_no (by intro e; injection e with e; exact y60 e)⟩
        clear heq hz hbs hzm hzt hh y60
        go_wp2_with (go_at_call 56; refine (blanks_s V.ps).mono ?_; rintro e w1 ⟨rfl, H1, hb1⟩; have B1 := Kept.mk (B0.out.trans hb1); clear hb1)
        rw [HZ.out] at H1
        have c0 := H1.c0
        obtain ⟨k, hk, c1⟩ := H1.at_
        have hk1 : k < s.size := by simp at hk; omega
        have k0 : (0 : Int) ≤ (k : Int) := by omega
        have hne : ((k : Int) == (s.size : Int)) = false := by simp; omega
        have bx0 := beh_cell c0
        have bx1 := beh_cell c1
        refine wp_region_beh (by kernel_rfl) (by kernel_rfl) ?_
        repeat
          (refine Qw_step (fun K hK => ?_)
           go_simp
           first
             | (refine hK _ ?_; clear hK K)
             | (apply Exists.intro
                refine ⟨fun _ => ?_, hK _ ?_⟩
                (fail)
                clear hK K))
        refine Qw_nil ?_
        rintro w5 ⟨⟨_, hb5⟩, rfl⟩
        have H5 := H1.below hb5
        have B5 := Kept.mk (B1.out.trans (Bel.of hb5 H1.hB))
        clear hb5 bx0 bx1 H1 c0 c1
        go_wp2_with (go_at_call 57; refine (must_s_no [60] (by decide) H5 KL.out).mono ?_; rintro e w6 ⟨rfl, hl6, hb6⟩; have B6 := Kept.mk (B5.out.trans hb6); clear hb6)
        exact ⟨rfl, B6.out, by rw [HX.out]; exact ⟨rfl, hl6⟩⟩
set_option maxRecDepth 100000 in
set_option maxHeartbeats 4000000 in
theorem doc_short {B b F : Nat} {s : ByteArray} {w : World} (h : Ps B b s Ppa.st0 s.data.toList w) (ht : Pch.textsL s.data.toList = true) {o : Except Ppa.Bs Ppa.St} (hx : Lib.hasPrefix s.data.toList xmlW = true) (hn : s.data.toList.drop 5 = []) (he : Ppa.docF s.size F false s.data.toList Ppa.stR = some o) :
    Calls Tryz.prog 38 #[.pointer (some ⟨b, 0, none⟩)] w fun e w' => WaysD B b s w o e w' := by
  have B0 : Kept (Bel B b w w) := ⟨Bel.refl _ _ _⟩
  have hsm := h.small
  have hm : Ppa.meas Ppa.st0 s.data.toList ≤ 300000 := by
    unfold Ppa.meas Ppa.st0
    rw [size_len]
    simp
    omega
  have HX0 := Kept.mk hx
  have HE0 := Kept.mk he
  have HN0 : Kept (restL s.data.toList = []) := ⟨by unfold restL; rw [if_pos hx, hn]⟩
  clear hx he hn
  have hm2 : Kept (Ppa.meas Ppa.stR s.data.toList ≤ 300000) := ⟨by unfold Ppa.meas Ppa.stR; rw [size_len]; simp; omega⟩
  go_enter Tryz.func38, Tryz.ntmps38
  go_wp2_with (first | (go_at_call 52; refine (add_t 1 (by decide) [] [] (-1) h hm).mono ?_; rintro e w1 ⟨rfl, H1, hb1⟩; have B1 := Kept.mk (B0.out.trans hb1); clear hb1; have H1r : Ps B b s Ppa.stR s.data.toList w1 := H1; have d0 := H1r.c0; clear H1) | (go_at_call 53; refine (cut_call s w1).mono ?_; rintro e w2 ⟨rfl, rfl⟩; rw [HX0.out, HN0.out]))
  have HD : Dc B b s o F false Ppa.stR s.data.toList w2 := ⟨H1r, hm2.out, ht, HE0.out⟩
  have BD := B1
  clear B0 H1r d0 hm2 HE0 HX0 HN0 hm h
  go_loopg [4] F (fun g x4 wx => ∃ (done : Bool) (st' : Ppa.St) (r' : Ppa.Bs), x4 = .bool done ∧ Dc B b s o g done st' r' wx ∧ Kept (Bel B b w wx))
  case atStart => exact ⟨false, _, _, rfl, HD, BD⟩
  case round =>
    obtain ⟨done, st', r', rfl, V, B0⟩ := hrel
    obtain ⟨g, rfl⟩ : ∃ g, gk = g + 1 := by
      cases gk with
      | zero => have h2 := V.eq; rw [Ppa.docF] at h2; cases h2
      | succ g => exact ⟨g, rfl⟩
    clear HD BD
    have hbs := Ppa.blanksL_suf r'
    have hzm := meas_small hbs V.m
    have hzt := Ppa.blanksL_texts V.tx
    have heq := V.eq
    generalize hz : Ppa.blanksL r' = z at hbs hzm hzt
    have HZ := Kept.mk hz
    cases z with
    | nil =>
      rw [docF_nil hz] at heq
      cases done with
      | true =>
        have HX : Kept (o = .ok st') := ⟨by rw [if_pos rfl] at heq; injection heq with heq; exact heq.symm⟩
        clear heq hz hbs hzm hzt
        go_wp2_with (go_at_call 56; refine (blanks_s V.ps).mono ?_; rintro e w1 ⟨rfl, H1, hb1⟩; have B1 := Kept.mk (B0.out.trans hb1); clear hb1)
        rw [HZ.out] at H1
        have c0 := H1.c0
        obtain ⟨k, hk, c1⟩ := H1.at_
        have i5 : k = s.size := by simpa using hk
        subst i5
        have bx0 := beh_cell c0
        have bx1 := beh_cell c1
        refine wp_region_beh (by kernel_rfl) (by kernel_rfl) ?_
        repeat
          (refine Qw_step (fun K hK => ?_)
           go_simp
           first
             | (refine hK _ ?_; clear hK K)
             | (apply Exists.intro
                refine ⟨fun _ => ?_, hK _ ?_⟩
                (fail)
                clear hK K))
        refine Qw_nil ?_
        rintro w5 ⟨⟨_, hb5⟩, rfl⟩
        have H5 := H1.below hb5
        have B5 := Kept.mk (B1.out.trans (Bel.of hb5 H1.hB))
        clear hb5 bx0 bx1 H1 c0 c1
        go_wp2
        go_end0
        exact ⟨B5.out, by rw [HX.out]; exact ⟨rfl, _, H5⟩⟩
      | false =>
        have HX : Kept (o = .error []) := ⟨by rw [if_neg (by decide)] at heq; injection heq with heq; exact heq.symm⟩
        have KL : Kept (Ppa.mustL [60] [] = .error []) := ⟨rfl⟩
        clear heq hz hbs hzm hzt
        go_wp2_with (go_at_call 56; refine (blanks_s V.ps).mono ?_; rintro e w1 ⟨rfl, H1, hb1⟩; have B1 := Kept.mk (B0.out.trans hb1); clear hb1)
        rw [HZ.out] at H1
        have c0 := H1.c0
        obtain ⟨k, hk, c1⟩ := H1.at_
        have i5 : k = s.size := by simpa using hk
        subst i5
        have bx0 := beh_cell c0
        have bx1 := beh_cell c1
        refine wp_region_beh (by kernel_rfl) (by kernel_rfl) ?_
        repeat
          (refine Qw_step (fun K hK => ?_)
           go_simp
           first
             | (refine hK _ ?_; clear hK K)
             | (apply Exists.intro
                refine ⟨fun _ => ?_, hK _ ?_⟩
                (fail)
                clear hK K))
        refine Qw_nil ?_
        rintro w5 ⟨⟨_, hb5⟩, rfl⟩
        have H5 := H1.below hb5
        have B5 := Kept.mk (B1.out.trans (Bel.of hb5 H1.hB))
        clear hb5 bx0 bx1 H1 c0 c1
        go_wp2_with (go_at_call 57; refine (must_s_no [60] (by decide) H5 KL.out).mono ?_; rintro e w6 ⟨rfl, hl6, hb6⟩; have B6 := Kept.mk (B5.out.trans hb6); clear hb6)
        exact ⟨rfl, B6.out, by rw [HX.out]; exact ⟨rfl, hl6⟩⟩
    | cons y t =>
      by_cases y60 : y = 60
      · subst y60
        have KL : Kept (Ppa.mustL [60] (60 :: t) = .ok t) := ⟨mustL_one_ok 60 t⟩
        have hzm1 := meas_small (List.suffix_cons 60 t) hzm
        have hzt1 := Ppa.texts_low (by decide) hzt
        by_cases h63 : t.head? = some 63
        · obtain ⟨u, rfl⟩ := head_cons h63
          rw [docF_pi hz] at heq
          have hzm2 := meas_small (List.suffix_cons 63 u) hzm1
          have hzt2 := Ppa.texts_low (by decide) hzt1
          cases hin : Ppa.instrM 0 u st' with
          | error r2 =>
            rw [hin] at heq
            have HX : Kept (o = .error r2) := ⟨by injection heq with heq; exact heq.symm⟩
            have KI := Kept.mk hin
            clear heq hz hbs hzm hzt hin h63
            go_wp2_with (go_at_call 56; refine (blanks_s V.ps).mono ?_; rintro e w1 ⟨rfl, H1, hb1⟩; have B1 := Kept.mk (B0.out.trans hb1); clear hb1)
            rw [HZ.out] at H1
            have c0 := H1.c0
            obtain ⟨k, hk, c1⟩ := H1.at_
            have hk1 : k < s.size := by simp at hk; omega
            have k0 : (0 : Int) ≤ (k : Int) := by omega
            have hne : ((k : Int) == (s.size : Int)) = false := by simp; omega
            have bx0 := beh_cell c0
            have bx1 := beh_cell c1
            refine wp_region_beh (by kernel_rfl) (by kernel_rfl) ?_
            repeat
              (refine Qw_step (fun K hK => ?_)
               go_simp
               first
                 | (refine hK _ ?_; clear hK K)
                 | (apply Exists.intro
                    refine ⟨fun _ => ?_, hK _ ?_⟩
                    (fail)
                    clear hK K))
            refine Qw_nil ?_
            rintro w5 ⟨⟨_, hb5⟩, rfl⟩
            have H5 := H1.below hb5
            have B5 := Kept.mk (B1.out.trans (Bel.of hb5 H1.hB))
            clear hb5 bx0 bx1 H1 c0 c1
            go_wp2_with (first | (go_at_call 57; refine (must_s_ok [60] (by decide) H5 KL.out).mono ?_; rintro e w6 ⟨rfl, H6, hb6⟩; have B6 := Kept.mk (B5.out.trans hb6); clear hb6) | (go_at_call 58; refine (may_yes 63 (by decide) H6).mono ?_; rintro e w7 ⟨rfl, H7, hb7⟩; have B7 := Kept.mk (B6.out.trans hb7); clear hb7) | (go_at_call 59; refine (waysS_no (instruction_s 0 H7 hzm2) KI.out).mono ?_; rintro e w8 ⟨rfl, hl8, hb8⟩; have B8 := Kept.mk (B7.out.trans hb8); clear hb8))
            exact ⟨rfl, B8.out, by rw [HX.out]; exact ⟨rfl, hl8⟩⟩
          | ok q2 =>
            obtain ⟨r2, st2⟩ := q2
            rw [hin] at heq
            obtain ⟨a1, a2, a3⟩ := Ppa.instrM_ok hin
            have HE := Kept.mk heq
            have HT2 := Kept.mk (a3 hzt2)
            have HM2 : Kept (Ppa.meas st2 r2 ≤ 300000) := ⟨by omega⟩
            have KI := Kept.mk hin
            clear heq hz hbs hzm hzt hin h63 a1 a2 a3
            go_wp2_with (go_at_call 56; refine (blanks_s V.ps).mono ?_; rintro e w1 ⟨rfl, H1, hb1⟩; have B1 := Kept.mk (B0.out.trans hb1); clear hb1)
            rw [HZ.out] at H1
            have c0 := H1.c0
            obtain ⟨k, hk, c1⟩ := H1.at_
            have hk1 : k < s.size := by simp at hk; omega
            have k0 : (0 : Int) ≤ (k : Int) := by omega
            have hne : ((k : Int) == (s.size : Int)) = false := by simp; omega
            have bx0 := beh_cell c0
            have bx1 := beh_cell c1
            refine wp_region_beh (by kernel_rfl) (by kernel_rfl) ?_
            repeat
              (refine Qw_step (fun K hK => ?_)
               go_simp
               first
                 | (refine hK _ ?_; clear hK K)
                 | (apply Exists.intro
                    refine ⟨fun _ => ?_, hK _ ?_⟩
                    (fail)
                    clear hK K))
            refine Qw_nil ?_
            rintro w5 ⟨⟨_, hb5⟩, rfl⟩
            have H5 := H1.below hb5
            have B5 := Kept.mk (B1.out.trans (Bel.of hb5 H1.hB))
            clear hb5 bx0 bx1 H1 c0 c1
            go_wp2_with (first | (go_at_call 57; refine (must_s_ok [60] (by decide) H5 KL.out).mono ?_; rintro e w6 ⟨rfl, H6, hb6⟩; have B6 := Kept.mk (B5.out.trans hb6); clear hb6) | (go_at_call 58; refine (may_yes 63 (by decide) H6).mono ?_; rintro e w7 ⟨rfl, H7, hb7⟩; have B7 := Kept.mk (B6.out.trans hb7); clear hb7) | (go_at_call 59; refine (waysS_ok (instruction_s 0 H7 hzm2) KI.out).mono ?_; rintro e w8 ⟨rfl, H8, hb8⟩; have B8 := Kept.mk (B7.out.trans hb8); clear hb8))
            go_roundg g
            case measure => omega
            case rel => exact ⟨done, st2, r2, rfl, ⟨H8, HM2.out, HT2.out, HE.out⟩, B8⟩
        · by_cases h33 : t.head? = some 33
          · obtain ⟨u, rfl⟩ := head_cons h33
            rw [docF_bang hz] at heq
            have hzm2 := meas_small (List.suffix_cons 33 u) hzm1
            have hzt2 := Ppa.texts_low (by decide) hzt1
            have K63 := Kept.mk h63
            cases hmu : Ppa.mustL [45] u with
            | error r2 =>
              rw [hmu] at heq
              have HX : Kept (o = .error r2) := ⟨by injection heq with heq; exact heq.symm⟩
              have KU := Kept.mk hmu
              clear heq hz hbs hzm hzt hmu h63 h33
              go_wp2_with (go_at_call 56; refine (blanks_s V.ps).mono ?_; rintro e w1 ⟨rfl, H1, hb1⟩; have B1 := Kept.mk (B0.out.trans hb1); clear hb1)
              rw [HZ.out] at H1
              have c0 := H1.c0
              obtain ⟨k, hk, c1⟩ := H1.at_
              have hk1 : k < s.size := by simp at hk; omega
              have k0 : (0 : Int) ≤ (k : Int) := by omega
              have hne : ((k : Int) == (s.size : Int)) = false := by simp; omega
              have bx0 := beh_cell c0
              have bx1 := beh_cell c1
              refine wp_region_beh (by kernel_rfl) (by kernel_rfl) ?_
              repeat
                (refine Qw_step (fun K hK => ?_)
                 go_simp
                 first
                   | (refine hK _ ?_; clear hK K)
                   | (apply Exists.intro
                      refine ⟨fun _ => ?_, hK _ ?_⟩
                      (fail)
                      clear hK K))
              refine Qw_nil ?_
              rintro w5 ⟨⟨_, hb5⟩, rfl⟩
              have H5 := H1.below hb5
              have B5 := Kept.mk (B1.out.trans (Bel.of hb5 H1.hB))
              clear hb5 bx0 bx1 H1 c0 c1
              have TG0 : Kept True := ⟨trivial⟩
              have TG1 : Kept True := ⟨trivial⟩
              go_wp2_with (first | (go_at_call 57; clear TG0; refine (must_s_ok [60] (by decide) H5 KL.out).mono ?_; rintro e w6 ⟨rfl, H6, hb6⟩; have B6 := Kept.mk (B5.out.trans hb6); clear hb6) | (go_at_call 58; clear TG1; refine (may_not 63 (by decide) K63.out H6).mono ?_; rintro e w7 ⟨rfl, H7, hb7⟩; have B7 := Kept.mk (B6.out.trans hb7); clear hb7) | (go_at_call 58; refine (may_yes 33 (by decide) H7).mono ?_; rintro e w8 ⟨rfl, H8, hb8⟩; have B8 := Kept.mk (B7.out.trans hb8); clear hb8) | (go_at_call 57; refine (must_s_no [45] (by decide) H8 KU.out).mono ?_; rintro e w9 ⟨rfl, hl9, hb9⟩; have B9 := Kept.mk (B8.out.trans hb9); clear hb9))
              exact ⟨rfl, B9.out, by rw [HX.out]; exact ⟨rfl, hl9⟩⟩
            | ok r1 =>
              rw [hmu] at heq
              dsimp only at heq
              have KU := Kept.mk hmu
              have hzm3 := meas_small (Ppa.mustL_suf hmu) hzm2
              have hzt3 := mustL_texts _ _ _ (by decide) hzt2 hmu
              cases hco : Ppa.commM 0 r1 st' with
              | error r2 =>
                rw [hco] at heq
                have HX : Kept (o = .error r2) := ⟨by injection heq with heq; exact heq.symm⟩
                have KC := Kept.mk hco
                clear heq hz hbs hzm hzt hmu h63 h33 hco
                go_wp2_with (go_at_call 56; refine (blanks_s V.ps).mono ?_; rintro e w1 ⟨rfl, H1, hb1⟩; have B1 := Kept.mk (B0.out.trans hb1); clear hb1)
                rw [HZ.out] at H1
                have c0 := H1.c0
                obtain ⟨k, hk, c1⟩ := H1.at_
                have hk1 : k < s.size := by simp at hk; omega
                have k0 : (0 : Int) ≤ (k : Int) := by omega
                have hne : ((k : Int) == (s.size : Int)) = false := by simp; omega
                have bx0 := beh_cell c0
                have bx1 := beh_cell c1
                refine wp_region_beh (by kernel_rfl) (by kernel_rfl) ?_
                repeat
                  (refine Qw_step (fun K hK => ?_)
                   go_simp
                   first
                     | (refine hK _ ?_; clear hK K)
                     | (apply Exists.intro
                        refine ⟨fun _ => ?_, hK _ ?_⟩
                        (fail)
                        clear hK K))
                refine Qw_nil ?_
                rintro w5 ⟨⟨_, hb5⟩, rfl⟩
                have H5 := H1.below hb5
                have B5 := Kept.mk (B1.out.trans (Bel.of hb5 H1.hB))
                clear hb5 bx0 bx1 H1 c0 c1
                have TG0 : Kept True := ⟨trivial⟩
                have TG1 : Kept True := ⟨trivial⟩
                go_wp2_with (first | (go_at_call 57; clear TG0; refine (must_s_ok [60] (by decide) H5 KL.out).mono ?_; rintro e w6 ⟨rfl, H6, hb6⟩; have B6 := Kept.mk (B5.out.trans hb6); clear hb6) | (go_at_call 58; clear TG1; refine (may_not 63 (by decide) K63.out H6).mono ?_; rintro e w7 ⟨rfl, H7, hb7⟩; have B7 := Kept.mk (B6.out.trans hb7); clear hb7) | (go_at_call 58; refine (may_yes 33 (by decide) H7).mono ?_; rintro e w8 ⟨rfl, H8, hb8⟩; have B8 := Kept.mk (B7.out.trans hb8); clear hb8) | (go_at_call 57; refine (must_s_ok [45] (by decide) H8 KU.out).mono ?_; rintro e w9 ⟨rfl, H9, hb9⟩; have B9 := Kept.mk (B8.out.trans hb9); clear hb9) | (go_at_call 60; refine (waysS_no (comment_s 0 H9 hzm3) KC.out).mono ?_; rintro e w10 ⟨rfl, hl10, hb10⟩; have B10 := Kept.mk (B9.out.trans hb10); clear hb10))
                exact ⟨rfl, B10.out, by rw [HX.out]; exact ⟨rfl, hl10⟩⟩
              | ok q2 =>
                obtain ⟨r2, st2⟩ := q2
                rw [hco] at heq
                obtain ⟨a1, a2, a3⟩ := Ppa.commM_ok hco
                have HE := Kept.mk heq
                have HT2 := Kept.mk (a3 hzt3)
                have HM2 : Kept (Ppa.meas st2 r2 ≤ 300000) := ⟨by omega⟩
                have KC := Kept.mk hco
                clear heq hz hbs hzm hzt hmu h63 h33 hco a1 a2 a3
                go_wp2_with (go_at_call 56; refine (blanks_s V.ps).mono ?_; rintro e w1 ⟨rfl, H1, hb1⟩; have B1 := Kept.mk (B0.out.trans hb1); clear hb1)
                rw [HZ.out] at H1
                have c0 := H1.c0
                obtain ⟨k, hk, c1⟩ := H1.at_
                have hk1 : k < s.size := by simp at hk; omega
                have k0 : (0 : Int) ≤ (k : Int) := by omega
                have hne : ((k : Int) == (s.size : Int)) = false := by simp; omega
                have bx0 := beh_cell c0
                have bx1 := beh_cell c1
                refine wp_region_beh (by kernel_rfl) (by kernel_rfl) ?_
                repeat
                  (refine Qw_step (fun K hK => ?_)
                   go_simp
                   first
                     | (refine hK _ ?_; clear hK K)
                     | (apply Exists.intro
                        refine ⟨fun _ => ?_, hK _ ?_⟩
                        (fail)
                        clear hK K))
                refine Qw_nil ?_
                rintro w5 ⟨⟨_, hb5⟩, rfl⟩
                have H5 := H1.below hb5
                have B5 := Kept.mk (B1.out.trans (Bel.of hb5 H1.hB))
                clear hb5 bx0 bx1 H1 c0 c1
                have TG0 : Kept True := ⟨trivial⟩
                have TG1 : Kept True := ⟨trivial⟩
                go_wp2_with (first | (go_at_call 57; clear TG0; refine (must_s_ok [60] (by decide) H5 KL.out).mono ?_; rintro e w6 ⟨rfl, H6, hb6⟩; have B6 := Kept.mk (B5.out.trans hb6); clear hb6) | (go_at_call 58; clear TG1; refine (may_not 63 (by decide) K63.out H6).mono ?_; rintro e w7 ⟨rfl, H7, hb7⟩; have B7 := Kept.mk (B6.out.trans hb7); clear hb7) | (go_at_call 58; refine (may_yes 33 (by decide) H7).mono ?_; rintro e w8 ⟨rfl, H8, hb8⟩; have B8 := Kept.mk (B7.out.trans hb8); clear hb8) | (go_at_call 57; refine (must_s_ok [45] (by decide) H8 KU.out).mono ?_; rintro e w9 ⟨rfl, H9, hb9⟩; have B9 := Kept.mk (B8.out.trans hb9); clear hb9) | (go_at_call 60; refine (waysS_ok (comment_s 0 H9 hzm3) KC.out).mono ?_; rintro e w10 ⟨rfl, H10, hb10⟩; have B10 := Kept.mk (B9.out.trans hb10); clear hb10))
                go_roundg g
                case measure => omega
                case rel => exact ⟨done, st2, r2, rfl, ⟨H10, HM2.out, HT2.out, HE.out⟩, B10⟩
          · rw [docF_elem hz h63 h33] at heq
            have K63 := Kept.mk h63
            have K33 := Kept.mk h33
            cases done with
            | true =>
              have HX : Kept (o = .error t) := ⟨by rw [if_pos rfl] at heq; injection heq with heq; exact heq.symm⟩
              clear heq hz hbs hzm hzt h63 h33
              go_wp2_with (go_at_call 56; refine (blanks_s V.ps).mono ?_; rintro e w1 ⟨rfl, H1, hb1⟩; have B1 := Kept.mk (B0.out.trans hb1); clear hb1)
              rw [HZ.out] at H1
              have c0 := H1.c0
              obtain ⟨k, hk, c1⟩ := H1.at_
              have hk1 : k < s.size := by simp at hk; omega
              have k0 : (0 : Int) ≤ (k : Int) := by omega
              have hne : ((k : Int) == (s.size : Int)) = false := by simp; omega
              have bx0 := beh_cell c0
              have bx1 := beh_cell c1
              refine wp_region_beh (by kernel_rfl) (by kernel_rfl) ?_
              repeat
                (refine Qw_step (fun K hK => ?_)
                 go_simp
                 first
                   | (refine hK _ ?_; clear hK K)
                   | (apply Exists.intro
                      refine ⟨fun _ => ?_, hK _ ?_⟩
                      (fail)
                      clear hK K))
              refine Qw_nil ?_
              rintro w5 ⟨⟨_, hb5⟩, rfl⟩
              have H5 := H1.below hb5
              have B5 := Kept.mk (B1.out.trans (Bel.of hb5 H1.hB))
              clear hb5 bx0 bx1 H1 c0 c1
              have TG1 : Kept True := ⟨trivial⟩
              go_wp2_with (first | (go_at_call 57; refine (must_s_ok [60] (by decide) H5 KL.out).mono ?_; rintro e w6 ⟨rfl, H6, hb6⟩; have B6 := Kept.mk (B5.out.trans hb6); clear hb6) | (go_at_call 58; clear TG1; refine (may_not 63 (by decide) K63.out H6).mono ?_; rintro e w7 ⟨rfl, H7, hb7⟩; have B7 := Kept.mk (B6.out.trans hb7); clear hb7) | (go_at_call 58; refine (may_not 33 (by decide) K33.out H7).mono ?_; rintro e w8 ⟨rfl, H8, hb8⟩; have B8 := Kept.mk (B7.out.trans hb8); clear hb8) | (go_at_call 61; refine (no_s H8).mono ?_; rintro e w9 ⟨rfl, rfl⟩))
              exact ⟨rfl, B8.out, by rw [HX.out]; exact ⟨rfl, H8.len⟩⟩
            | false =>
              rw [if_neg (by decide)] at heq
              cases hel : Ppa.elemF s.size g 0 1 t st' with
              | none => rw [hel] at heq; cases heq
              | some oe =>
                rw [hel] at heq
                obtain ⟨f', rfl⟩ : ∃ f', g = f' + 1 := by
                  cases g with
                  | zero => unfold Ppa.elemF at hel; cases hel
                  | succ f => exact ⟨f, rfl⟩
                have CE := Kept.mk (fun (wx : World) (hx : Ps B b s st' t wx) (h9 : 1 ≤ s.size - t.length) => element_s (d := 1) 0 (both_s B b s f').1 hx hzm1 hzt1 (by have := hx.len; omega) h9 hel)
                cases oe with
                | error r2 =>
                  have HX : Kept (o = .error r2) := ⟨by injection heq with heq; exact heq.symm⟩
                  clear heq hz hbs hzm hzt h63 h33 hel
                  go_wp2_with (go_at_call 56; refine (blanks_s V.ps).mono ?_; rintro e w1 ⟨rfl, H1, hb1⟩; have B1 := Kept.mk (B0.out.trans hb1); clear hb1)
                  rw [HZ.out] at H1
                  have c0 := H1.c0
                  obtain ⟨k, hk, c1⟩ := H1.at_
                  have hk1 : k < s.size := by simp at hk; omega
                  have k0 : (0 : Int) ≤ (k : Int) := by omega
                  have hne : ((k : Int) == (s.size : Int)) = false := by simp; omega
                  have bx0 := beh_cell c0
                  have bx1 := beh_cell c1
                  refine wp_region_beh (by kernel_rfl) (by kernel_rfl) ?_
                  repeat
                    (refine Qw_step (fun K hK => ?_)
                     go_simp
                     first
                       | (refine hK _ ?_; clear hK K)
                       | (apply Exists.intro
                          refine ⟨fun _ => ?_, hK _ ?_⟩
                          (fail)
                          clear hK K))
                  refine Qw_nil ?_
                  rintro w5 ⟨⟨_, hb5⟩, rfl⟩
                  have H5 := H1.below hb5
                  have B5 := Kept.mk (B1.out.trans (Bel.of hb5 H1.hB))
                  clear hb5 bx0 bx1 H1 c0 c1
                  have hr9 : 1 ≤ s.size - t.length := by simp at hk; omega
                  have TG1 : Kept True := ⟨trivial⟩
                  go_wp2_with (first | (go_at_call 57; refine (must_s_ok [60] (by decide) H5 KL.out).mono ?_; rintro e w6 ⟨rfl, H6, hb6⟩; have B6 := Kept.mk (B5.out.trans hb6); clear hb6) | (go_at_call 58; clear TG1; refine (may_not 63 (by decide) K63.out H6).mono ?_; rintro e w7 ⟨rfl, H7, hb7⟩; have B7 := Kept.mk (B6.out.trans hb7); clear hb7) | (go_at_call 58; refine (may_not 33 (by decide) K33.out H7).mono ?_; rintro e w8 ⟨rfl, H8, hb8⟩; have B8 := Kept.mk (B7.out.trans hb8); clear hb8) | (go_at_call 62; refine (waysS_no (CE.out _ H8 hr9) rfl).mono ?_; rintro e w9 ⟨rfl, hl9, hb9⟩; have B9 := Kept.mk (B8.out.trans hb9); clear hb9))
                  exact ⟨rfl, B9.out, by rw [HX.out]; exact ⟨rfl, hl9⟩⟩
                | ok q2 =>
                  obtain ⟨r2, st2⟩ := q2
                  obtain ⟨a1, a2, a3⟩ := (Ppa.kc_all s.size (f' + 1)).elem 0 1 t st' r2 st2 hel
                  have HE := Kept.mk heq
                  have HT2 := Kept.mk (a3 hzt1)
                  have HM2 : Kept (Ppa.meas st2 r2 ≤ 300000) := ⟨by omega⟩
                  clear heq hz hbs hzm hzt h63 h33 hel a1 a2 a3
                  go_wp2_with (go_at_call 56; refine (blanks_s V.ps).mono ?_; rintro e w1 ⟨rfl, H1, hb1⟩; have B1 := Kept.mk (B0.out.trans hb1); clear hb1)
                  rw [HZ.out] at H1
                  have c0 := H1.c0
                  obtain ⟨k, hk, c1⟩ := H1.at_
                  have hk1 : k < s.size := by simp at hk; omega
                  have k0 : (0 : Int) ≤ (k : Int) := by omega
                  have hne : ((k : Int) == (s.size : Int)) = false := by simp; omega
                  have bx0 := beh_cell c0
                  have bx1 := beh_cell c1
                  refine wp_region_beh (by kernel_rfl) (by kernel_rfl) ?_
                  repeat
                    (refine Qw_step (fun K hK => ?_)
                     go_simp
                     first
                       | (refine hK _ ?_; clear hK K)
                       | (apply Exists.intro
                          refine ⟨fun _ => ?_, hK _ ?_⟩
                          (fail)
                          clear hK K))
                  refine Qw_nil ?_
                  rintro w5 ⟨⟨_, hb5⟩, rfl⟩
                  have H5 := H1.below hb5
                  have B5 := Kept.mk (B1.out.trans (Bel.of hb5 H1.hB))
                  clear hb5 bx0 bx1 H1 c0 c1
                  have hr9 : 1 ≤ s.size - t.length := by simp at hk; omega
                  have TG1 : Kept True := ⟨trivial⟩
                  go_wp2_with (first | (go_at_call 57; refine (must_s_ok [60] (by decide) H5 KL.out).mono ?_; rintro e w6 ⟨rfl, H6, hb6⟩; have B6 := Kept.mk (B5.out.trans hb6); clear hb6) | (go_at_call 58; clear TG1; refine (may_not 63 (by decide) K63.out H6).mono ?_; rintro e w7 ⟨rfl, H7, hb7⟩; have B7 := Kept.mk (B6.out.trans hb7); clear hb7) | (go_at_call 58; refine (may_not 33 (by decide) K33.out H7).mono ?_; rintro e w8 ⟨rfl, H8, hb8⟩; have B8 := Kept.mk (B7.out.trans hb8); clear hb8) | (go_at_call 62; refine (waysS_ok (CE.out _ H8 hr9) rfl).mono ?_; rintro e w9 ⟨rfl, H9, hb9⟩; have B9 := Kept.mk (B8.out.trans hb9); clear hb9))
                  go_roundg (f' + 1)
                  case measure => omega
                  case rel => exact ⟨true, st2, r2, rfl, ⟨H9, HM2.out, HT2.out, HE.out⟩, B9⟩
      · have hh : (Ppa.blanksL r').head? ≠ some 60 := by rw [hz]; intro e; injection e with e; exact y60 e
        rw [docF_bad (by rw [hz]; simp) hh, hz] at heq
        have HX : Kept (o = .error (y :: t)) := ⟨by injection heq with heq; exact heq.symm⟩
        have KL : Kept (Ppa.mustL [60] (y :: t) = .error (y :: t)) := ⟨mustL_one_no (by intro e; injection e with e; exact y60 e)⟩
        clear heq hz hbs hzm hzt hh y60
        go_wp2_with (go_at_call 56; refine (blanks_s V.ps).mono ?_; rintro e w1 ⟨rfl, H1, hb1⟩; have B1 := Kept.mk (B0.out.trans hb1); clear hb1)
        rw [HZ.out] at H1
        have c0 := H1.c0
        obtain ⟨k, hk, c1⟩ := H1.at_
        have hk1 : k < s.size := by simp at hk; omega
        have k0 : (0 : Int) ≤ (k : Int) := by omega
        have hne : ((k : Int) == (s.size : Int)) = false := by simp; omega
        have bx0 := beh_cell c0
        have bx1 := beh_cell c1
        refine wp_region_beh (by kernel_rfl) (by kernel_rfl) ?_
        repeat
          (refine Qw_step (fun K hK => ?_)
           go_simp
           first
             | (refine hK _ ?_; clear hK K)
             | (apply Exists.intro
                refine ⟨fun _ => ?_, hK _ ?_⟩
                (fail)
                clear hK K))
        refine Qw_nil ?_
        rintro w5 ⟨⟨_, hb5⟩, rfl⟩
        have H5 := H1.below hb5
        have B5 := Kept.mk (B1.out.trans (Bel.of hb5 H1.hB))
        clear hb5 bx0 bx1 H1 c0 c1
        go_wp2_with (go_at_call 57; refine (must_s_no [60] (by decide) H5 KL.out).mono ?_; rintro e w6 ⟨rfl, hl6, hb6⟩; have B6 := Kept.mk (B5.out.trans hb6); clear hb6)
        exact ⟨rfl, B6.out, by rw [HX.out]; exact ⟨rfl, hl6⟩⟩
set_option maxRecDepth 100000 in
set_option maxHeartbeats 4000000 in
theorem doc_nob {B b F : Nat} {s : ByteArray} {w : World} (h : Ps B b s Ppa.st0 s.data.toList w) (ht : Pch.textsL s.data.toList = true) {o : Except Ppa.Bs Ppa.St} {x : UInt8} {t : Ppa.Bs} (hx : Lib.hasPrefix s.data.toList xmlW = true) (hn : s.data.toList.drop 5 = x :: t) (hb : Pch.blankC x = false) (he : Ppa.docF s.size F false s.data.toList Ppa.stR = some o) :
    Calls Tryz.prog 38 #[.pointer (some ⟨b, 0, none⟩)] w fun e w' => WaysD B b s w o e w' := by
  have B0 : Kept (Bel B b w w) := ⟨Bel.refl _ _ _⟩
  have hsm := h.small
  have hm : Ppa.meas Ppa.st0 s.data.toList ≤ 300000 := by
    unfold Ppa.meas Ppa.st0
    rw [size_len]
    simp
    omega
  have HX0 := Kept.mk hx
  have HE0 := Kept.mk he
  have HB1 := Kept.mk hb
  have HN0 : Kept (restL s.data.toList = x :: t) := ⟨by unfold restL; rw [if_pos hx, hn]⟩
  have HS1 : Kept ((⟨(x :: t).toArray⟩ : ByteArray).extract 0 1 = ⟨#[x]⟩) := ⟨(extract_part _ 0 1).trans rfl⟩
  have hz1 : ((⟨(x :: t).toArray⟩ : ByteArray)).size = t.length + 1 := by rw [Lib.size_mk]; rfl
  clear hx he hn hb
  have hm2 : Kept (Ppa.meas Ppa.stR s.data.toList ≤ 300000) := ⟨by unfold Ppa.meas Ppa.stR; rw [size_len]; simp; omega⟩
  go_enter Tryz.func38, Tryz.ntmps38
  go_wp2_with (first | (go_at_call 52; refine (add_t 1 (by decide) [] [] (-1) h hm).mono ?_; rintro e w1 ⟨rfl, H1, hb1⟩; have B1 := Kept.mk (B0.out.trans hb1); clear hb1; have H1r : Ps B b s Ppa.stR s.data.toList w1 := H1; have d0 := H1r.c0; clear H1) | (go_at_call 53; refine (cut_call s w1).mono ?_; rintro e w2 ⟨rfl, rfl⟩; rw [HX0.out, HN0.out]) | (go_at_call 54; rw [HS1.out]; refine (blank1_call x w2).mono ?_; rintro e w3 ⟨rfl, hb3⟩; rw [HB1.out]; have H3 := H1r.below hb3; have B3 := Kept.mk (B1.out.trans (Bel.of hb3 H1r.hB)); clear hb3))
  have HD : Dc B b s o F false Ppa.stR s.data.toList w3 := ⟨H3, hm2.out, ht, HE0.out⟩
  have BD := B3
  clear B0 H1r d0 hm2 HE0 HX0 HN0 hm h H3 B3 HB1 HS1 hz1
  go_loopg [4] F (fun g x4 wx => ∃ (done : Bool) (st' : Ppa.St) (r' : Ppa.Bs), x4 = .bool done ∧ Dc B b s o g done st' r' wx ∧ Kept (Bel B b w wx))
  case atStart => exact ⟨false, _, _, rfl, HD, BD⟩
  case round =>
    obtain ⟨done, st', r', rfl, V, B0⟩ := hrel
    obtain ⟨g, rfl⟩ : ∃ g, gk = g + 1 := by
      cases gk with
      | zero => have h2 := V.eq; rw [Ppa.docF] at h2; cases h2
      | succ g => exact ⟨g, rfl⟩
    clear HD BD
    have hbs := Ppa.blanksL_suf r'
    have hzm := meas_small hbs V.m
    have hzt := Ppa.blanksL_texts V.tx
    have heq := V.eq
    generalize hz : Ppa.blanksL r' = z at hbs hzm hzt
    have HZ := Kept.mk hz
    cases z with
    | nil =>
      rw [docF_nil hz] at heq
      cases done with
      | true =>
        have HX : Kept (o = .ok st') := ⟨by rw [if_pos rfl] at heq; injection heq with heq; exact heq.symm⟩
        clear heq hz hbs hzm hzt
        go_wp2_with (go_at_call 56; refine (blanks_s V.ps).mono ?_; rintro e w1 ⟨rfl, H1, hb1⟩; have B1 := Kept.mk (B0.out.trans hb1); clear hb1)
        rw [HZ.out] at H1
        have c0 := H1.c0
        obtain ⟨k, hk, c1⟩ := H1.at_
        have i5 : k = s.size := by simpa using hk
        subst i5
        have bx0 := beh_cell c0
        have bx1 := beh_cell c1
        refine wp_region_beh (by kernel_rfl) (by kernel_rfl) ?_
        repeat
          (refine Qw_step (fun K hK => ?_)
           go_simp
           first
             | (refine hK _ ?_; clear hK K)
             | (apply Exists.intro
                refine ⟨fun _ => ?_, hK _ ?_⟩
                (fail)
                clear hK K))
        refine Qw_nil ?_
        rintro w5 ⟨⟨_, hb5⟩, rfl⟩
        have H5 := H1.below hb5
        have B5 := Kept.mk (B1.out.trans (Bel.of hb5 H1.hB))
        clear hb5 bx0 bx1 H1 c0 c1
        go_wp2
        go_end0
        exact ⟨B5.out, by rw [HX.out]; exact ⟨rfl, _, H5⟩⟩
      | false =>
        have HX : Kept (o = .error []) := ⟨by rw [if_neg (by decide)] at heq; injection heq with heq; exact heq.symm⟩
        have KL : Kept (Ppa.mustL [60] [] = .error []) := ⟨rfl⟩
        clear heq hz hbs hzm hzt
        go_wp2_with (go_at_call 56; refine (blanks_s V.ps).mono ?_; rintro e w1 ⟨rfl, H1, hb1⟩; have B1 := Kept.mk (B0.out.trans hb1); clear hb1)
        rw [HZ.out] at H1
        have c0 := H1.c0
        obtain ⟨k, hk, c1⟩ := H1.at_
        have i5 : k = s.size := by simpa using hk
        subst i5
        have bx0 := beh_cell c0
        have bx1 := beh_cell c1
        refine wp_region_beh (by kernel_rfl) (by kernel_rfl) ?_
        repeat
          (refine Qw_step (fun K hK => ?_)
           go_simp
           first
             | (refine hK _ ?_; clear hK K)
             | (apply Exists.intro
                refine ⟨fun _ => ?_, hK _ ?_⟩
                (fail)
                clear hK K))
        refine Qw_nil ?_
        rintro w5 ⟨⟨_, hb5⟩, rfl⟩
        have H5 := H1.below hb5
        have B5 := Kept.mk (B1.out.trans (Bel.of hb5 H1.hB))
        clear hb5 bx0 bx1 H1 c0 c1
        go_wp2_with (go_at_call 57; refine (must_s_no [60] (by decide) H5 KL.out).mono ?_; rintro e w6 ⟨rfl, hl6, hb6⟩; have B6 := Kept.mk (B5.out.trans hb6); clear hb6)
        exact ⟨rfl, B6.out, by rw [HX.out]; exact ⟨rfl, hl6⟩⟩
    | cons y t =>
      by_cases y60 : y = 60
      · subst y60
        have KL : Kept (Ppa.mustL [60] (60 :: t) = .ok t) := ⟨mustL_one_ok 60 t⟩
        have hzm1 := meas_small (List.suffix_cons 60 t) hzm
        have hzt1 := Ppa.texts_low (by decide) hzt
        by_cases h63 : t.head? = some 63
        · obtain ⟨u, rfl⟩ := head_cons h63
          rw [docF_pi hz] at heq
          have hzm2 := meas_small (List.suffix_cons 63 u) hzm1
          have hzt2 := Ppa.texts_low (by decide) hzt1
          cases hin : Ppa.instrM 0 u st' with
          | error r2 =>
            rw [hin] at heq
            have HX : Kept (o = .error r2) := ⟨by injection heq with heq; exact heq.symm⟩
            have KI := Kept.mk hin
            clear heq hz hbs hzm hzt hin h63
            go_wp2_with (go_at_call 56; refine (blanks_s V.ps).mono ?_; rintro e w1 ⟨rfl, H1, hb1⟩; have B1 := Kept.mk (B0.out.trans hb1); clear hb1)
            rw [HZ.out] at H1
            have c0 := H1.c0
            obtain ⟨k, hk, c1⟩ := H1.at_
            have hk1 : k < s.size := by simp at hk; omega
            have k0 : (0 : Int) ≤ (k : Int) := by omega
            have hne : ((k : Int) == (s.size : Int)) = false := by simp; omega
            have bx0 := beh_cell c0
            have bx1 := beh_cell c1
            refine wp_region_beh (by kernel_rfl) (by kernel_rfl) ?_
            repeat
              (refine Qw_step (fun K hK => ?_)
               go_simp
               first
                 | (refine hK _ ?_; clear hK K)
                 | (apply Exists.intro
                    refine ⟨fun _ => ?_, hK _ ?_⟩
                    (fail)
                    clear hK K))
            refine Qw_nil ?_
            rintro w5 ⟨⟨_, hb5⟩, rfl⟩
            have H5 := H1.below hb5
            have B5 := Kept.mk (B1.out.trans (Bel.of hb5 H1.hB))
            clear hb5 bx0 bx1 H1 c0 c1
            go_wp2_with (first | (go_at_call 57; refine (must_s_ok [60] (by decide) H5 KL.out).mono ?_; rintro e w6 ⟨rfl, H6, hb6⟩; have B6 := Kept.mk (B5.out.trans hb6); clear hb6) | (go_at_call 58; refine (may_yes 63 (by decide) H6).mono ?_; rintro e w7 ⟨rfl, H7, hb7⟩; have B7 := Kept.mk (B6.out.trans hb7); clear hb7) | (go_at_call 59; refine (waysS_no (instruction_s 0 H7 hzm2) KI.out).mono ?_; rintro e w8 ⟨rfl, hl8, hb8⟩; have B8 := Kept.mk (B7.out.trans hb8); clear hb8))
            exact ⟨rfl, B8.out, by rw [HX.out]; exact ⟨rfl, hl8⟩⟩
          | ok q2 =>
            obtain ⟨r2, st2⟩ := q2
            rw [hin] at heq
            obtain ⟨a1, a2, a3⟩ := Ppa.instrM_ok hin
            have HE := Kept.mk heq
            have HT2 := Kept.mk (a3 hzt2)
            have HM2 : Kept (Ppa.meas st2 r2 ≤ 300000) := ⟨by omega⟩
            have KI := Kept.mk hin
            clear heq hz hbs hzm hzt hin h63 a1 a2 a3
            go_wp2_with (go_at_call 56; refine (blanks_s V.ps).mono ?_; rintro e w1 ⟨rfl, H1, hb1⟩; have B1 := Kept.mk (B0.out.trans hb1); clear hb1)
            rw [HZ.out] at H1
            have c0 := H1.c0
            obtain ⟨k, hk, c1⟩ := H1.at_
            have hk1 : k < s.size := by simp at hk; omega
            have k0 : (0 : Int) ≤ (k : Int) := by omega
            have hne : ((k : Int) == (s.size : Int)) = false := by simp; omega
            have bx0 := beh_cell c0
            have bx1 := beh_cell c1
            refine wp_region_beh (by kernel_rfl) (by kernel_rfl) ?_
            repeat
              (refine Qw_step (fun K hK => ?_)
               go_simp
               first
                 | (refine hK _ ?_; clear hK K)
                 | (apply Exists.intro
                    refine ⟨fun _ => ?_, hK _ ?_⟩
                    (fail)
                    clear hK K))
            refine Qw_nil ?_
            rintro w5 ⟨⟨_, hb5⟩, rfl⟩
            have H5 := H1.below hb5
            have B5 := Kept.mk (B1.out.trans (Bel.of hb5 H1.hB))
            clear hb5 bx0 bx1 H1 c0 c1
            go_wp2_with (first | (go_at_call 57; refine (must_s_ok [60] (by decide) H5 KL.out).mono ?_; rintro e w6 ⟨rfl, H6, hb6⟩; have B6 := Kept.mk (B5.out.trans hb6); clear hb6) | (go_at_call 58; refine (may_yes 63 (by decide) H6).mono ?_; rintro e w7 ⟨rfl, H7, hb7⟩; have B7 := Kept.mk (B6.out.trans hb7); clear hb7) | (go_at_call 59; refine (waysS_ok (instruction_s 0 H7 hzm2) KI.out).mono ?_; rintro e w8 ⟨rfl, H8, hb8⟩; have B8 := Kept.mk (B7.out.trans hb8); clear hb8))
            go_roundg g
            case measure => omega
            case rel => exact ⟨done, st2, r2, rfl, ⟨H8, HM2.out, HT2.out, HE.out⟩, B8⟩
        · by_cases h33 : t.head? = some 33
          · obtain ⟨u, rfl⟩ := head_cons h33
            rw [docF_bang hz] at heq
            have hzm2 := meas_small (List.suffix_cons 33 u) hzm1
            have hzt2 := Ppa.texts_low (by decide) hzt1
            have K63 := Kept.mk h63
            cases hmu : Ppa.mustL [45] u with
            | error r2 =>
              rw [hmu] at heq
              have HX : Kept (o = .error r2) := ⟨by injection heq with heq; exact heq.symm⟩
              have KU := Kept.mk hmu
              clear heq hz hbs hzm hzt hmu h63 h33
              go_wp2_with (go_at_call 56; refine (blanks_s V.ps).mono ?_; rintro e w1 ⟨rfl, H1, hb1⟩; have B1 := Kept.mk (B0.out.trans hb1); clear hb1)
              rw [HZ.out] at H1
              have c0 := H1.c0
              obtain ⟨k, hk, c1⟩ := H1.at_
              have hk1 : k < s.size := by simp at hk; omega
              have k0 : (0 : Int) ≤ (k : Int) := by omega
              have hne : ((k : Int) == (s.size : Int)) = false := by simp; omega
              have bx0 := beh_cell c0
              have bx1 := beh_cell c1
              refine wp_region_beh (by kernel_rfl) (by kernel_rfl) ?_
              repeat
                (refine Qw_step (fun K hK => ?_)
                 go_simp
                 first
                   | (refine hK _ ?_; clear hK K)
                   | (apply Exists.intro
                      refine ⟨fun _ => ?_, hK _ ?_⟩
                      (fail)
                      clear hK K))
              refine Qw_nil ?_
              rintro w5 ⟨⟨_, hb5⟩, rfl⟩
              have H5 := H1.below hb5
              have B5 := Kept.mk (B1.out.trans (Bel.of hb5 H1.hB))
              clear hb5 bx0 bx1 H1 c0 c1
              have TG0 : Kept True := ⟨trivial⟩
              have TG1 : Kept True := ⟨trivial⟩
              go_wp2_with (first | (go_at_call 57; clear TG0; refine (must_s_ok [60] (by decide) H5 KL.out).mono ?_; rintro e w6 ⟨rfl, H6, hb6⟩; have B6 := Kept.mk (B5.out.trans hb6); clear hb6) | (go_at_call 58; clear TG1; refine (may_not 63 (by decide) K63.out H6).mono ?_; rintro e w7 ⟨rfl, H7, hb7⟩; have B7 := Kept.mk (B6.out.trans hb7); clear hb7) | (go_at_call 58; refine (may_yes 33 (by decide) H7).mono ?_; rintro e w8 ⟨rfl, H8, hb8⟩; have B8 := Kept.mk (B7.out.trans hb8); clear hb8) | (go_at_call 57; refine (must_s_no [45] (by decide) H8 KU.out).mono ?_; rintro e w9 ⟨rfl, hl9, hb9⟩; have B9 := Kept.mk (B8.out.trans hb9); clear hb9))
              exact ⟨rfl, B9.out, by rw [HX.out]; exact ⟨rfl, hl9⟩⟩
            | ok r1 =>
              rw [hmu] at heq
              dsimp only at heq
              have KU := Kept.mk hmu
              have hzm3 := meas_small (Ppa.mustL_suf hmu) hzm2
              have hzt3 := mustL_texts _ _ _ (by decide) hzt2 hmu
              cases hco : Ppa.commM 0 r1 st' with
              | error r2 =>
                rw [hco] at heq
                have HX : Kept (o = .error r2) := ⟨by injection heq with heq; exact heq.symm⟩
                have KC := Kept.mk hco
                clear heq hz hbs hzm hzt hmu h63 h33 hco
                go_wp2_with (go_at_call 56; refine (blanks_s V.ps).mono ?_; rintro e w1 ⟨rfl, H1, hb1⟩; have B1 := Kept.mk (B0.out.trans hb1); clear hb1)
                rw [HZ.out] at H1
                have c0 := H1.c0
                obtain ⟨k, hk, c1⟩ := H1.at_
                have hk1 : k < s.size := by simp at hk; omega
                have k0 : (0 : Int) ≤ (k : Int) := by omega
                have hne : ((k : Int) == (s.size : Int)) = false := by simp; omega
                have bx0 := beh_cell c0
                have bx1 := beh_cell c1
                refine wp_region_beh (by kernel_rfl) (by kernel_rfl) ?_
                repeat
                  (refine Qw_step (fun K hK => ?_)
                   go_simp
                   first
                     | (refine hK _ ?_; clear hK K)
                     | (apply Exists.intro
                        refine ⟨fun _ => ?_, hK _ ?_⟩
                        (fail)
                        clear hK K))
                refine Qw_nil ?_
                rintro w5 ⟨⟨_, hb5⟩, rfl⟩
                have H5 := H1.below hb5
                have B5 := Kept.mk (B1.out.trans (Bel.of hb5 H1.hB))
                clear hb5 bx0 bx1 H1 c0 c1
                have TG0 : Kept True := ⟨trivial⟩
                have TG1 : Kept True := ⟨trivial⟩
                go_wp2_with (first | (go_at_call 57; clear TG0; refine (must_s_ok [60] (by decide) H5 KL.out).mono ?_; rintro e w6 ⟨rfl, H6, hb6⟩; have B6 := Kept.mk (B5.out.trans hb6); clear hb6) | (go_at_call 58; clear TG1; refine (may_not 63 (by decide) K63.out H6).mono ?_; rintro e w7 ⟨rfl, H7, hb7⟩; have B7 := Kept.mk (B6.out.trans hb7); clear hb7) | (go_at_call 58; refine (may_yes 33 (by decide) H7).mono ?_; rintro e w8 ⟨rfl, H8, hb8⟩; have B8 := Kept.mk (B7.out.trans hb8); clear hb8) | (go_at_call 57; refine (must_s_ok [45] (by decide) H8 KU.out).mono ?_; rintro e w9 ⟨rfl, H9, hb9⟩; have B9 := Kept.mk (B8.out.trans hb9); clear hb9) | (go_at_call 60; refine (waysS_no (comment_s 0 H9 hzm3) KC.out).mono ?_; rintro e w10 ⟨rfl, hl10, hb10⟩; have B10 := Kept.mk (B9.out.trans hb10); clear hb10))
                exact ⟨rfl, B10.out, by rw [HX.out]; exact ⟨rfl, hl10⟩⟩
              | ok q2 =>
                obtain ⟨r2, st2⟩ := q2
                rw [hco] at heq
                obtain ⟨a1, a2, a3⟩ := Ppa.commM_ok hco
                have HE := Kept.mk heq
                have HT2 := Kept.mk (a3 hzt3)
                have HM2 : Kept (Ppa.meas st2 r2 ≤ 300000) := ⟨by omega⟩
                have KC := Kept.mk hco
                clear heq hz hbs hzm hzt hmu h63 h33 hco a1 a2 a3
                go_wp2_with (go_at_call 56; refine (blanks_s V.ps).mono ?_; rintro e w1 ⟨rfl, H1, hb1⟩; have B1 := Kept.mk (B0.out.trans hb1); clear hb1)
                rw [HZ.out] at H1
                have c0 := H1.c0
                obtain ⟨k, hk, c1⟩ := H1.at_
                have hk1 : k < s.size := by simp at hk; omega
                have k0 : (0 : Int) ≤ (k : Int) := by omega
                have hne : ((k : Int) == (s.size : Int)) = false := by simp; omega
                have bx0 := beh_cell c0
                have bx1 := beh_cell c1
                refine wp_region_beh (by kernel_rfl) (by kernel_rfl) ?_
                repeat
                  (refine Qw_step (fun K hK => ?_)
                   go_simp
                   first
                     | (refine hK _ ?_; clear hK K)
                     | (apply Exists.intro
                        refine ⟨fun _ => ?_, hK _ ?_⟩
                        (fail)
                        clear hK K))
                refine Qw_nil ?_
                rintro w5 ⟨⟨_, hb5⟩, rfl⟩
                have H5 := H1.below hb5
                have B5 := Kept.mk (B1.out.trans (Bel.of hb5 H1.hB))
                clear hb5 bx0 bx1 H1 c0 c1
                have TG0 : Kept True := ⟨trivial⟩
                have TG1 : Kept True := ⟨trivial⟩
                go_wp2_with (first | (go_at_call 57; clear TG0; refine (must_s_ok [60] (by decide) H5 KL.out).mono ?_; rintro e w6 ⟨rfl, H6, hb6⟩; have B6 := Kept.mk (B5.out.trans hb6); clear hb6) | (go_at_call 58; clear TG1; refine (may_not 63 (by decide) K63.out H6).mono ?_; rintro e w7 ⟨rfl, H7, hb7⟩; have B7 := Kept.mk (B6.out.trans hb7); clear hb7) | (go_at_call 58; refine (may_yes 33 (by decide) H7).mono ?_; rintro e w8 ⟨rfl, H8, hb8⟩; have B8 := Kept.mk (B7.out.trans hb8); clear hb8) | (go_at_call 57; refine (must_s_ok [45] (by decide) H8 KU.out).mono ?_; rintro e w9 ⟨rfl, H9, hb9⟩; have B9 := Kept.mk (B8.out.trans hb9); clear hb9) | (go_at_call 60; refine (waysS_ok (comment_s 0 H9 hzm3) KC.out).mono ?_; rintro e w10 ⟨rfl, H10, hb10⟩; have B10 := Kept.mk (B9.out.trans hb10); clear hb10))
                go_roundg g
                case measure => omega
                case rel => exact ⟨done, st2, r2, rfl, ⟨H10, HM2.out, HT2.out, HE.out⟩, B10⟩
          · rw [docF_elem hz h63 h33] at heq
            have K63 := Kept.mk h63
            have K33 := Kept.mk h33
            cases done with
            | true =>
              have HX : Kept (o = .error t) := ⟨by rw [if_pos rfl] at heq; injection heq with heq; exact heq.symm⟩
              clear heq hz hbs hzm hzt h63 h33
              go_wp2_with (go_at_call 56; refine (blanks_s V.ps).mono ?_; rintro e w1 ⟨rfl, H1, hb1⟩; have B1 := Kept.mk (B0.out.trans hb1); clear hb1)
              rw [HZ.out] at H1
              have c0 := H1.c0
              obtain ⟨k, hk, c1⟩ := H1.at_
              have hk1 : k < s.size := by simp at hk; omega
              have k0 : (0 : Int) ≤ (k : Int) := by omega
              have hne : ((k : Int) == (s.size : Int)) = false := by simp; omega
              have bx0 := beh_cell c0
              have bx1 := beh_cell c1
              refine wp_region_beh (by kernel_rfl) (by kernel_rfl) ?_
              repeat
                (refine Qw_step (fun K hK => ?_)
                 go_simp
                 first
                   | (refine hK _ ?_; clear hK K)
                   | (apply Exists.intro
                      refine ⟨fun _ => ?_, hK _ ?_⟩
                      (fail)
                      clear hK K))
              refine Qw_nil ?_
              rintro w5 ⟨⟨_, hb5⟩, rfl⟩
              have H5 := H1.below hb5
              have B5 := Kept.mk (B1.out.trans (Bel.of hb5 H1.hB))
              clear hb5 bx0 bx1 H1 c0 c1
              have TG1 : Kept True := ⟨trivial⟩
              go_wp2_with (first | (go_at_call 57; refine (must_s_ok [60] (by decide) H5 KL.out).mono ?_; rintro e w6 ⟨rfl, H6, hb6⟩; have B6 := Kept.mk (B5.out.trans hb6); clear hb6) | (go_at_call 58; clear TG1; refine (may_not 63 (by decide) K63.out H6).mono ?_; rintro e w7 ⟨rfl, H7, hb7⟩; have B7 := Kept.mk (B6.out.trans hb7); clear hb7) | (go_at_call 58; refine (may_not 33 (by decide) K33.out H7).mono ?_; rintro e w8 ⟨rfl, H8, hb8⟩; have B8 := Kept.mk (B7.out.trans hb8); clear hb8) | (go_at_call 61; refine (no_s H8).mono ?_; rintro e w9 ⟨rfl, rfl⟩))
              exact ⟨rfl, B8.out, by rw [HX.out]; exact ⟨rfl, H8.len⟩⟩
            | false =>
              rw [if_neg (by decide)] at heq
              cases hel : Ppa.elemF s.size g 0 1 t st' with
              | none => rw [hel] at heq; cases heq
              | some oe =>
                rw [hel] at heq
                obtain ⟨f', rfl⟩ : ∃ f', g = f' + 1 := by
                  cases g with
                  | zero => unfold Ppa.elemF at hel; cases hel
                  | succ f => exact ⟨f, rfl⟩
                have CE := Kept.mk (fun (wx : World) (hx : Ps B b s st' t wx) (h9 : 1 ≤ s.size - t.length) => element_s (d := 1) 0 (both_s B b s f').1 hx hzm1 hzt1 (by have := hx.len; omega) h9 hel)
                cases oe with
                | error r2 =>
                  have HX : Kept (o = .error r2) := ⟨by injection heq with heq; exact heq.symm⟩
                  clear heq hz hbs hzm hzt h63 h33 hel
                  go_wp2_with (go_at_call 56; refine (blanks_s V.ps).mono ?_; rintro e w1 ⟨rfl, H1, hb1⟩; have B1 := Kept.mk (B0.out.trans hb1); clear hb1)
                  rw [HZ.out] at H1
                  have c0 := H1.c0
                  obtain ⟨k, hk, c1⟩ := H1.at_
                  have hk1 : k < s.size := by simp at hk; omega
                  have k0 : (0 : Int) ≤ (k : Int) := by omega
                  have hne : ((k : Int) == (s.size : Int)) = false := by simp; omega
                  have bx0 := beh_cell c0
                  have bx1 := beh_cell c1
                  refine wp_region_beh (by kernel_rfl) (by kernel_rfl) ?_
                  repeat
                    (refine Qw_step (fun K hK => ?_)
                     go_simp
                     first
                       | (refine hK _ ?_; clear hK K)
                       | (apply Exists.intro
                          refine ⟨fun _ => ?_, hK _ ?_⟩
                          (fail)
                          clear hK K))
                  refine Qw_nil ?_
                  rintro w5 ⟨⟨_, hb5⟩, rfl⟩
                  have H5 := H1.below hb5
                  have B5 := Kept.mk (B1.out.trans (Bel.of hb5 H1.hB))
                  clear hb5 bx0 bx1 H1 c0 c1
                  have hr9 : 1 ≤ s.size - t.length := by simp at hk; omega
                  have TG1 : Kept True := ⟨trivial⟩
                  go_wp2_with (first | (go_at_call 57; refine (must_s_ok [60] (by decide) H5 KL.out).mono ?_; rintro e w6 ⟨rfl, H6, hb6⟩; have B6 := Kept.mk (B5.out.trans hb6); clear hb6) | (go_at_call 58; clear TG1; refine (may_not 63 (by decide) K63.out H6).mono ?_; rintro e w7 ⟨rfl, H7, hb7⟩; have B7 := Kept.mk (B6.out.trans hb7); clear hb7) | (go_at_call 58; refine (may_not 33 (by decide) K33.out H7).mono ?_; rintro e w8 ⟨rfl, H8, hb8⟩; have B8 := Kept.mk (B7.out.trans hb8); clear hb8) | (go_at_call 62; refine (waysS_no (CE.out _ H8 hr9) rfl).mono ?_; rintro e w9 ⟨rfl, hl9, hb9⟩; have B9 := Kept.mk (B8.out.trans hb9); clear hb9))
                  exact ⟨rfl, B9.out, by rw [HX.out]; exact ⟨rfl, hl9⟩⟩
                | ok q2 =>
                  obtain ⟨r2, st2⟩ := q2
                  obtain ⟨a1, a2, a3⟩ := (Ppa.kc_all s.size (f' + 1)).elem 0 1 t st' r2 st2 hel
                  have HE := Kept.mk heq
                  have HT2 := Kept.mk (a3 hzt1)
                  have HM2 : Kept (Ppa.meas st2 r2 ≤ 300000) := ⟨by omega⟩
                  clear heq hz hbs hzm hzt h63 h33 hel a1 a2 a3
                  go_wp2_with (go_at_call 56; refine (blanks_s V.ps).mono ?_; rintro e w1 ⟨rfl, H1, hb1⟩; have B1 := Kept.mk (B0.out.trans hb1); clear hb1)
                  rw [HZ.out] at H1
                  have c0 := H1.c0
                  obtain ⟨k, hk, c1⟩ := H1.at_
                  have hk1 : k < s.size := by simp at hk; omega
                  have k0 : (0 : Int) ≤ (k : Int) := by omega
                  have hne : ((k : Int) == (s.size : Int)) = false := by simp; omega
                  have bx0 := beh_cell c0
                  have bx1 := beh_cell c1
                  refine wp_region_beh (by kernel_rfl) (by kernel_rfl) ?_
                  repeat
                    (refine Qw_step (fun K hK => ?_)
                     go_simp
                     first
                       | (refine hK _ ?_; clear hK K)
                       | (apply Exists.intro
                          refine ⟨fun _ => ?_, hK _ ?_⟩
                          (fail)
                          clear hK K))
                  refine Qw_nil ?_
                  rintro w5 ⟨⟨_, hb5⟩, rfl⟩
                  have H5 := H1.below hb5
                  have B5 := Kept.mk (B1.out.trans (Bel.of hb5 H1.hB))
                  clear hb5 bx0 bx1 H1 c0 c1
                  have hr9 : 1 ≤ s.size - t.length := by simp at hk; omega
                  have TG1 : Kept True := ⟨trivial⟩
                  go_wp2_with (first | (go_at_call 57; refine (must_s_ok [60] (by decide) H5 KL.out).mono ?_; rintro e w6 ⟨rfl, H6, hb6⟩; have B6 := Kept.mk (B5.out.trans hb6); clear hb6) | (go_at_call 58; clear TG1; refine (may_not 63 (by decide) K63.out H6).mono ?_; rintro e w7 ⟨rfl, H7, hb7⟩; have B7 := Kept.mk (B6.out.trans hb7); clear hb7) | (go_at_call 58; refine (may_not 33 (by decide) K33.out H7).mono ?_; rintro e w8 ⟨rfl, H8, hb8⟩; have B8 := Kept.mk (B7.out.trans hb8); clear hb8) | (go_at_call 62; refine (waysS_ok (CE.out _ H8 hr9) rfl).mono ?_; rintro e w9 ⟨rfl, H9, hb9⟩; have B9 := Kept.mk (B8.out.trans hb9); clear hb9))
                  go_roundg (f' + 1)
                  case measure => omega
                  case rel => exact ⟨true, st2, r2, rfl, ⟨H9, HM2.out, HT2.out, HE.out⟩, B9⟩
      · have hh : (Ppa.blanksL r').head? ≠ some 60 := by rw [hz]; intro e; injection e with e; exact y60 e
        rw [docF_bad (by rw [hz]; simp) hh, hz] at heq
        have HX : Kept (o = .error (y :: t)) := ⟨by injection heq with heq; exact heq.symm⟩
        have KL : Kept (Ppa.mustL [60] (y :: t) = .error (y :: t)) := ⟨mustL_one_no (by intro e; injection e with e; exact y60 e)⟩
        clear heq hz hbs hzm hzt hh y60
        go_wp2_with (go_at_call 56; refine (blanks_s V.ps).mono ?_; rintro e w1 ⟨rfl, H1, hb1⟩; have B1 := Kept.mk (B0.out.trans hb1); clear hb1)
        rw [HZ.out] at H1
        have c0 := H1.c0
        obtain ⟨k, hk, c1⟩ := H1.at_
        have hk1 : k < s.size := by simp at hk; omega
        have k0 : (0 : Int) ≤ (k : Int) := by omega
        have hne : ((k : Int) == (s.size : Int)) = false := by simp; omega
        have bx0 := beh_cell c0
        have bx1 := beh_cell c1
        refine wp_region_beh (by kernel_rfl) (by kernel_rfl) ?_
        repeat
          (refine Qw_step (fun K hK => ?_)
           go_simp
           first
             | (refine hK _ ?_; clear hK K)
             | (apply Exists.intro
                refine ⟨fun _ => ?_, hK _ ?_⟩
                (fail)
                clear hK K))
        refine Qw_nil ?_
        rintro w5 ⟨⟨_, hb5⟩, rfl⟩
        have H5 := H1.below hb5
        have B5 := Kept.mk (B1.out.trans (Bel.of hb5 H1.hB))
        clear hb5 bx0 bx1 H1 c0 c1
        go_wp2_with (go_at_call 57; refine (must_s_no [60] (by decide) H5 KL.out).mono ?_; rintro e w6 ⟨rfl, hl6, hb6⟩; have B6 := Kept.mk (B5.out.trans hb6); clear hb6)
        exact ⟨rfl, B6.out, by rw [HX.out]; exact ⟨rfl, hl6⟩⟩
set_option maxRecDepth 100000 in
set_option maxHeartbeats 4000000 in
theorem doc_decl {B b F : Nat} {s : ByteArray} {w : World} (h : Ps B b s Ppa.st0 s.data.toList w) {o : Except Ppa.Bs Ppa.St} {x : UInt8} {t r1 : Ppa.Bs} (hx : Lib.hasPrefix s.data.toList xmlW = true) (hn : s.data.toList.drop 5 = x :: t) (hb : Pch.blankC x = true) (hd : Ppa.declM (x :: t) = .ok r1) (ht1 : Pch.textsL r1 = true) (hm1 : Ppa.meas Ppa.stR r1 ≤ 300000) (he : Ppa.docF s.size F false r1 Ppa.stR = some o) :
    Calls Tryz.prog 38 #[.pointer (some ⟨b, 0, none⟩)] w fun e w' => WaysD B b s w o e w' := by
  have B0 : Kept (Bel B b w w) := ⟨Bel.refl _ _ _⟩
  have hsm := h.small
  have hm : Ppa.meas Ppa.st0 s.data.toList ≤ 300000 := by
    unfold Ppa.meas Ppa.st0
    rw [size_len]
    simp
    omega
  have HX0 := Kept.mk hx
  have HE0 := Kept.mk he
  have HB1 := Kept.mk hb
  have HN0 : Kept (restL s.data.toList = x :: t) := ⟨by unfold restL; rw [if_pos hx, hn]⟩
  have HS1 : Kept ((⟨(x :: t).toArray⟩ : ByteArray).extract 0 1 = ⟨#[x]⟩) := ⟨(extract_part _ 0 1).trans rfl⟩
  have hz1 : ((⟨(x :: t).toArray⟩ : ByteArray)).size = t.length + 1 := by rw [Lib.size_mk]; rfl
  have HN1 := Kept.mk hn
  have HDC := Kept.mk hd
  clear hx he hn hb hd
  go_enter Tryz.func38, Tryz.ntmps38
  go_wp2_with (first | (go_at_call 52; refine (add_t 1 (by decide) [] [] (-1) h hm).mono ?_; rintro e w1 ⟨rfl, H1, hb1⟩; have B1 := Kept.mk (B0.out.trans hb1); clear hb1; have H1r : Ps B b s Ppa.stR s.data.toList w1 := H1; have d0 := H1r.c0; clear H1) | (go_at_call 53; refine (cut_call s w1).mono ?_; rintro e w2 ⟨rfl, rfl⟩; rw [HX0.out, HN0.out]) | (go_at_call 54; rw [HS1.out]; refine (blank1_call x w2).mono ?_; rintro e w3 ⟨rfl, hb3⟩; rw [HB1.out]; have H3 := H1r.below hb3; have B3 := Kept.mk (B1.out.trans (Bel.of hb3 H1r.hB)); clear hb3; obtain ⟨k, hk, c1⟩ := H3.at_; have f1 := H3.unf 1; have H4 := H3.put (r' := x :: t) (by rw [← HN1.out]; exact List.drop_suffix _ _) (z := 5) (by have h5 := congrArg List.length HN1.out; rw [List.length_drop, size_len] at h5; simp only [List.length_cons] at h5 ⊢; omega); have B4 := Kept.mk (B3.out.setCell (p := ⟨b, 1, none⟩) H3.le (.int .i64 5)); clear H3 B3) | (go_at_call 55; refine (decl_ok H4 HDC.out).mono ?_; rintro e w5 ⟨rfl, H5, hb5⟩; have B5 := Kept.mk (B4.out.trans hb5); clear hb5))
  have HD : Dc B b s o F false Ppa.stR r1 w5 := ⟨H5, hm1, ht1, HE0.out⟩
  have BD := B5
  clear B0 H1r d0 HE0 HX0 HN0 hm h H4 B4 HB1 HS1 hz1 H5 B5 HN1 HDC c1 f1 hk
  go_loopg [4] F (fun g x4 wx => ∃ (done : Bool) (st' : Ppa.St) (r' : Ppa.Bs), x4 = .bool done ∧ Dc B b s o g done st' r' wx ∧ Kept (Bel B b w wx))
  case atStart => exact ⟨false, _, _, rfl, HD, BD⟩
  case round =>
    obtain ⟨done, st', r', rfl, V, B0⟩ := hrel
    obtain ⟨g, rfl⟩ : ∃ g, gk = g + 1 := by
      cases gk with
      | zero => have h2 := V.eq; rw [Ppa.docF] at h2; cases h2
      | succ g => exact ⟨g, rfl⟩
    clear HD BD
    have hbs := Ppa.blanksL_suf r'
    have hzm := meas_small hbs V.m
    have hzt := Ppa.blanksL_texts V.tx
    have heq := V.eq
    generalize hz : Ppa.blanksL r' = z at hbs hzm hzt
    have HZ := Kept.mk hz
    cases z with
    | nil =>
      rw [docF_nil hz] at heq
      cases done with
      | true =>
        have HX : Kept (o = .ok st') := ⟨by rw [if_pos rfl] at heq; injection heq with heq; exact heq.symm⟩
        clear heq hz hbs hzm hzt
        go_wp2_with (go_at_call 56; refine (blanks_s V.ps).mono ?_; rintro e w1 ⟨rfl, H1, hb1⟩; have B1 := Kept.mk (B0.out.trans hb1); clear hb1)
        rw [HZ.out] at H1
        have c0 := H1.c0
        obtain ⟨k, hk, c1⟩ := H1.at_
        have i5 : k = s.size := by simpa using hk
        subst i5
        have bx0 := beh_cell c0
        have bx1 := beh_cell c1
        refine wp_region_beh (by kernel_rfl) (by kernel_rfl) ?_
        repeat
          (refine Qw_step (fun K hK => ?_)
           go_simp
           first
             | (refine hK _ ?_; clear hK K)
             | (apply Exists.intro
                refine ⟨fun _ => ?_, hK _ ?_⟩
                (fail)
                clear hK K))
        refine Qw_nil ?_
        rintro w5 ⟨⟨_, hb5⟩, rfl⟩
        have H5 := H1.below hb5
        have B5 := Kept.mk (B1.out.trans (Bel.of hb5 H1.hB))
        clear hb5 bx0 bx1 H1 c0 c1
        go_wp2
        go_end0
        exact ⟨B5.out, by rw [HX.out]; exact ⟨rfl, _, H5⟩⟩
      | false =>
        have HX : Kept (o = .error []) := ⟨by rw [if_neg (by decide)] at heq; injection heq with heq; exact heq.symm⟩
        have KL : Kept (Ppa.mustL [60] [] = .error []) := ⟨rfl⟩
        clear heq hz hbs hzm hzt
        go_wp2_with (go_at_call 56; refine (blanks_s V.ps).mono ?_; rintro e w1 ⟨rfl, H1, hb1⟩; have B1 := Kept.mk (B0.out.trans hb1); clear hb1)
        rw [HZ.out] at H1
        have c0 := H1.c0
        obtain ⟨k, hk, c1⟩ := H1.at_
        have i5 : k = s.size := by simpa using hk
        subst i5
        have bx0 := beh_cell c0
        have bx1 := beh_cell c1
        refine wp_region_beh (by kernel_rfl) (by kernel_rfl) ?_
        repeat
          (refine Qw_step (fun K hK => ?_)
           go_simp
           first
             | (refine hK _ ?_; clear hK K)
             | (apply Exists.intro
                refine ⟨fun _ => ?_, hK _ ?_⟩
                (fail)
                clear hK K))
        refine Qw_nil ?_
        rintro w5 ⟨⟨_, hb5⟩, rfl⟩
        have H5 := H1.below hb5
        have B5 := Kept.mk (B1.out.trans (Bel.of hb5 H1.hB))
        clear hb5 bx0 bx1 H1 c0 c1
        go_wp2_with (go_at_call 57; refine (must_s_no [60] (by decide) H5 KL.out).mono ?_; rintro e w6 ⟨rfl, hl6, hb6⟩; have B6 := Kept.mk (B5.out.trans hb6); clear hb6)
        exact ⟨rfl, B6.out, by rw [HX.out]; exact ⟨rfl, hl6⟩⟩
    | cons y t =>
      by_cases y60 : y = 60
      · subst y60
        have KL : Kept (Ppa.mustL [60] (60 :: t) = .ok t) := ⟨mustL_one_ok 60 t⟩
        have hzm1 := meas_small (List.suffix_cons 60 t) hzm
        have hzt1 := Ppa.texts_low (by decide) hzt
        by_cases h63 : t.head? = some 63
        · obtain ⟨u, rfl⟩ := head_cons h63
          rw [docF_pi hz] at heq
          have hzm2 := meas_small (List.suffix_cons 63 u) hzm1
          have hzt2 := Ppa.texts_low (by decide) hzt1
          cases hin : Ppa.instrM 0 u st' with
          | error r2 =>
            rw [hin] at heq
            have HX : Kept (o = .error r2) := ⟨by injection heq with heq; exact heq.symm⟩
            have KI := Kept.mk hin
            clear heq hz hbs hzm hzt hin h63
            go_wp2_with (go_at_call 56; refine (blanks_s V.ps).mono ?_; rintro e w1 ⟨rfl, H1, hb1⟩; have B1 := Kept.mk (B0.out.trans hb1); clear hb1)
            rw [HZ.out] at H1
            have c0 := H1.c0
            obtain ⟨k, hk, c1⟩ := H1.at_
            have hk1 : k < s.size := by simp at hk; omega
            have k0 : (0 : Int) ≤ (k : Int) := by omega
            have hne : ((k : Int) == (s.size : Int)) = false := by simp; omega
            have bx0 := beh_cell c0
            have bx1 := beh_cell c1
            refine wp_region_beh (by kernel_rfl) (by kernel_rfl) ?_
            repeat
              (refine Qw_step (fun K hK => ?_)
               go_simp
               first
                 | (refine hK _ ?_; clear hK K)
                 | (apply Exists.intro
                    refine ⟨fun _ => ?_, hK _ ?_⟩
                    (fail)
                    clear hK K))
            refine Qw_nil ?_
            rintro w5 ⟨⟨_, hb5⟩, rfl⟩
            have H5 := H1.below hb5
            have B5 := Kept.mk (B1.out.trans (Bel.of hb5 H1.hB))
            clear hb5 bx0 bx1 H1 c0 c1
            go_wp2_with (first | (go_at_call 57; refine (must_s_ok [60] (by decide) H5 KL.out).mono ?_; rintro e w6 ⟨rfl, H6, hb6⟩; have B6 := Kept.mk (B5.out.trans hb6); clear hb6) | (go_at_call 58; refine (may_yes 63 (by decide) H6).mono ?_; rintro e w7 ⟨rfl, H7, hb7⟩; have B7 := Kept.mk (B6.out.trans hb7); clear hb7) | (go_at_call 59; refine (waysS_no (instruction_s 0 H7 hzm2) KI.out).mono ?_; rintro e w8 ⟨rfl, hl8, hb8⟩; have B8 := Kept.mk (B7.out.trans hb8); clear hb8))
            exact ⟨rfl, B8.out, by rw [HX.out]; exact ⟨rfl, hl8⟩⟩
          | ok q2 =>
            obtain ⟨r2, st2⟩ := q2
            rw [hin] at heq
            obtain ⟨a1, a2, a3⟩ := Ppa.instrM_ok hin
            have HE := Kept.mk heq
            have HT2 := Kept.mk (a3 hzt2)
            have HM2 : Kept (Ppa.meas st2 r2 ≤ 300000) := ⟨by omega⟩
            have KI := Kept.mk hin
            clear heq hz hbs hzm hzt hin h63 a1 a2 a3
            go_wp2_with (go_at_call 56; refine (blanks_s V.ps).mono ?_; rintro e w1 ⟨rfl, H1, hb1⟩; have B1 := Kept.mk (B0.out.trans hb1); clear hb1)
            rw [HZ.out] at H1
            have c0 := H1.c0
            obtain ⟨k, hk, c1⟩ := H1.at_
            have hk1 : k < s.size := by simp at hk; omega
            have k0 : (0 : Int) ≤ (k : Int) := by omega
            have hne : ((k : Int) == (s.size : Int)) = false := by simp; omega
            have bx0 := beh_cell c0
            have bx1 := beh_cell c1
            refine wp_region_beh (by kernel_rfl) (by kernel_rfl) ?_
            repeat
              (refine Qw_step (fun K hK => ?_)
               go_simp
               first
                 | (refine hK _ ?_; clear hK K)
                 | (apply Exists.intro
                    refine ⟨fun _ => ?_, hK _ ?_⟩
                    (fail)
                    clear hK K))
            refine Qw_nil ?_
            rintro w5 ⟨⟨_, hb5⟩, rfl⟩
            have H5 := H1.below hb5
            have B5 := Kept.mk (B1.out.trans (Bel.of hb5 H1.hB))
            clear hb5 bx0 bx1 H1 c0 c1
            go_wp2_with (first | (go_at_call 57; refine (must_s_ok [60] (by decide) H5 KL.out).mono ?_; rintro e w6 ⟨rfl, H6, hb6⟩; have B6 := Kept.mk (B5.out.trans hb6); clear hb6) | (go_at_call 58; refine (may_yes 63 (by decide) H6).mono ?_; rintro e w7 ⟨rfl, H7, hb7⟩; have B7 := Kept.mk (B6.out.trans hb7); clear hb7) | (go_at_call 59; refine (waysS_ok (instruction_s 0 H7 hzm2) KI.out).mono ?_; rintro e w8 ⟨rfl, H8, hb8⟩; have B8 := Kept.mk (B7.out.trans hb8); clear hb8))
            go_roundg g
            case measure => omega
            case rel => exact ⟨done, st2, r2, rfl, ⟨H8, HM2.out, HT2.out, HE.out⟩, B8⟩
        · by_cases h33 : t.head? = some 33
          · obtain ⟨u, rfl⟩ := head_cons h33
            rw [docF_bang hz] at heq
            have hzm2 := meas_small (List.suffix_cons 33 u) hzm1
            have hzt2 := Ppa.texts_low (by decide) hzt1
            have K63 := Kept.mk h63
            cases hmu : Ppa.mustL [45] u with
            | error r2 =>
              rw [hmu] at heq
              have HX : Kept (o = .error r2) := ⟨by injection heq with heq; exact heq.symm⟩
              have KU := Kept.mk hmu
              clear heq hz hbs hzm hzt hmu h63 h33
              go_wp2_with (go_at_call 56; refine (blanks_s V.ps).mono ?_; rintro e w1 ⟨rfl, H1, hb1⟩; have B1 := Kept.mk (B0.out.trans hb1); clear hb1)
              rw [HZ.out] at H1
              have c0 := H1.c0
              obtain ⟨k, hk, c1⟩ := H1.at_
              have hk1 : k < s.size := by simp at hk; omega
              have k0 : (0 : Int) ≤ (k : Int) := by omega
              have hne : ((k : Int) == (s.size : Int)) = false := by simp; omega
              have bx0 := beh_cell c0
              have bx1 := beh_cell c1
              refine wp_region_beh (by kernel_rfl) (by kernel_rfl) ?_
              repeat
                (refine Qw_step (fun K hK => ?_)
                 go_simp
                 first
                   | (refine hK _ ?_; clear hK K)
                   | (apply Exists.intro
                      refine ⟨fun _ => ?_, hK _ ?_⟩
                      (fail)
                      clear hK K))
              refine Qw_nil ?_
              rintro w5 ⟨⟨_, hb5⟩, rfl⟩
              have H5 := H1.below hb5
              have B5 := Kept.mk (B1.out.trans (Bel.of hb5 H1.hB))
              clear hb5 bx0 bx1 H1 c0 c1
              have TG0 : Kept True := ⟨trivial⟩
              have TG1 : Kept True := ⟨trivial⟩
              go_wp2_with (first | (go_at_call 57; clear TG0; refine (must_s_ok [60] (by decide) H5 KL.out).mono ?_; rintro e w6 ⟨rfl, H6, hb6⟩; have B6 := Kept.mk (B5.out.trans hb6); clear hb6) | (go_at_call 58; clear TG1; refine (may_not 63 (by decide) K63.out H6).mono ?_; rintro e w7 ⟨rfl, H7, hb7⟩; have B7 := Kept.mk (B6.out.trans hb7); clear hb7) | (go_at_call 58; refine (may_yes 33 (by decide) H7).mono ?_; rintro e w8 ⟨rfl, H8, hb8⟩; have B8 := Kept.mk (B7.out.trans hb8); clear hb8) | (go_at_call 57; refine (must_s_no [45] (by decide) H8 KU.out).mono ?_; rintro e w9 ⟨rfl, hl9, hb9⟩; have B9 := Kept.mk (B8.out.trans hb9); clear hb9))
              exact ⟨rfl, B9.out, by rw [HX.out]; exact ⟨rfl, hl9⟩⟩
            | ok r1 =>
              rw [hmu] at heq
              dsimp only at heq
              have KU := Kept.mk hmu
              have hzm3 := meas_small (Ppa.mustL_suf hmu) hzm2
              have hzt3 := mustL_texts _ _ _ (by decide) hzt2 hmu
              cases hco : Ppa.commM 0 r1 st' with
              | error r2 =>
                rw [hco] at heq
                have HX : Kept (o = .error r2) := ⟨by injection heq with heq; exact heq.symm⟩
                have KC := Kept.mk hco
                clear heq hz hbs hzm hzt hmu h63 h33 hco
                go_wp2_with (go_at_call 56; refine (blanks_s V.ps).mono ?_; rintro e w1 ⟨rfl, H1, hb1⟩; have B1 := Kept.mk (B0.out.trans hb1); clear hb1)
                rw [HZ.out] at H1
                have c0 := H1.c0
                obtain ⟨k, hk, c1⟩ := H1.at_
                have hk1 : k < s.size := by simp at hk; omega
                have k0 : (0 : Int) ≤ (k : Int) := by omega
                have hne : ((k : Int) == (s.size : Int)) = false := by simp; omega
                have bx0 := beh_cell c0
                have bx1 := beh_cell c1
                refine wp_region_beh (by kernel_rfl) (by kernel_rfl) ?_
                repeat
                  (refine Qw_step (fun K hK => ?_)
                   go_simp
                   first
                     | (refine hK _ ?_; clear hK K)
                     | (apply Exists.intro
                        refine ⟨fun _ => ?_, hK _ ?_⟩
                        (fail)
                        clear hK K))
                refine Qw_nil ?_
                rintro w5 ⟨⟨_, hb5⟩, rfl⟩
                have H5 := H1.below hb5
                have B5 := Kept.mk (B1.out.trans (Bel.of hb5 H1.hB))
                clear hb5 bx0 bx1 H1 c0 c1
                have TG0 : Kept True := ⟨trivial⟩
                have TG1 : Kept True := ⟨trivial⟩
                go_wp2_with (first | (go_at_call 57; clear TG0; refine (must_s_ok [60] (by decide) H5 KL.out).mono ?_; rintro e w6 ⟨rfl, H6, hb6⟩; have B6 := Kept.mk (B5.out.trans hb6); clear hb6) | (go_at_call 58; clear TG1; refine (may_not 63 (by decide) K63.out H6).mono ?_; rintro e w7 ⟨rfl, H7, hb7⟩; have B7 := Kept.mk (B6.out.trans hb7); clear hb7) | (go_at_call 58; refine (may_yes 33 (by decide) H7).mono ?_; rintro e w8 ⟨rfl, H8, hb8⟩; have B8 := Kept.mk (B7.out.trans hb8); clear hb8) | (go_at_call 57; refine (must_s_ok [45] (by decide) H8 KU.out).mono ?_; rintro e w9 ⟨rfl, H9, hb9⟩; have B9 := Kept.mk (B8.out.trans hb9); clear hb9) | (go_at_call 60; refine (waysS_no (comment_s 0 H9 hzm3) KC.out).mono ?_; rintro e w10 ⟨rfl, hl10, hb10⟩; have B10 := Kept.mk (B9.out.trans hb10); clear hb10))
                exact ⟨rfl, B10.out, by rw [HX.out]; exact ⟨rfl, hl10⟩⟩
              | ok q2 =>
                obtain ⟨r2, st2⟩ := q2
                rw [hco] at heq
                obtain ⟨a1, a2, a3⟩ := Ppa.commM_ok hco
                have HE := Kept.mk heq
                have HT2 := Kept.mk (a3 hzt3)
                have HM2 : Kept (Ppa.meas st2 r2 ≤ 300000) := ⟨by omega⟩
                have KC := Kept.mk hco
                clear heq hz hbs hzm hzt hmu h63 h33 hco a1 a2 a3
                go_wp2_with (go_at_call 56; refine (blanks_s V.ps).mono ?_; rintro e w1 ⟨rfl, H1, hb1⟩; have B1 := Kept.mk (B0.out.trans hb1); clear hb1)
                rw [HZ.out] at H1
                have c0 := H1.c0
                obtain ⟨k, hk, c1⟩ := H1.at_
                have hk1 : k < s.size := by simp at hk; omega
                have k0 : (0 : Int) ≤ (k : Int) := by omega
                have hne : ((k : Int) == (s.size : Int)) = false := by simp; omega
                have bx0 := beh_cell c0
                have bx1 := beh_cell c1
                refine wp_region_beh (by kernel_rfl) (by kernel_rfl) ?_
                repeat
                  (refine Qw_step (fun K hK => ?_)
                   go_simp
                   first
                     | (refine hK _ ?_; clear hK K)
                     | (apply Exists.intro
                        refine ⟨fun _ => ?_, hK _ ?_⟩
                        (fail)
                        clear hK K))
                refine Qw_nil ?_
                rintro w5 ⟨⟨_, hb5⟩, rfl⟩
                have H5 := H1.below hb5
                have B5 := Kept.mk (B1.out.trans (Bel.of hb5 H1.hB))
                clear hb5 bx0 bx1 H1 c0 c1
                have TG0 : Kept True := ⟨trivial⟩
                have TG1 : Kept True := ⟨trivial⟩
                go_wp2_with (first | (go_at_call 57; clear TG0; refine (must_s_ok [60] (by decide) H5 KL.out).mono ?_; rintro e w6 ⟨rfl, H6, hb6⟩; have B6 := Kept.mk (B5.out.trans hb6); clear hb6) | (go_at_call 58; clear TG1; refine (may_not 63 (by decide) K63.out H6).mono ?_; rintro e w7 ⟨rfl, H7, hb7⟩; have B7 := Kept.mk (B6.out.trans hb7); clear hb7) | (go_at_call 58; refine (may_yes 33 (by decide) H7).mono ?_; rintro e w8 ⟨rfl, H8, hb8⟩; have B8 := Kept.mk (B7.out.trans hb8); clear hb8) | (go_at_call 57; refine (must_s_ok [45] (by decide) H8 KU.out).mono ?_; rintro e w9 ⟨rfl, H9, hb9⟩; have B9 := Kept.mk (B8.out.trans hb9); clear hb9) | (go_at_call 60; refine (waysS_ok (comment_s 0 H9 hzm3) KC.out).mono ?_; rintro e w10 ⟨rfl, H10, hb10⟩; have B10 := Kept.mk (B9.out.trans hb10); clear hb10))
                go_roundg g
                case measure => omega
                case rel => exact ⟨done, st2, r2, rfl, ⟨H10, HM2.out, HT2.out, HE.out⟩, B10⟩
          · rw [docF_elem hz h63 h33] at heq
            have K63 := Kept.mk h63
            have K33 := Kept.mk h33
            cases done with
            | true =>
              have HX : Kept (o = .error t) := ⟨by rw [if_pos rfl] at heq; injection heq with heq; exact heq.symm⟩
              clear heq hz hbs hzm hzt h63 h33
              go_wp2_with (go_at_call 56; refine (blanks_s V.ps).mono ?_; rintro e w1 ⟨rfl, H1, hb1⟩; have B1 := Kept.mk (B0.out.trans hb1); clear hb1)
              rw [HZ.out] at H1
              have c0 := H1.c0
              obtain ⟨k, hk, c1⟩ := H1.at_
              have hk1 : k < s.size := by simp at hk; omega
              have k0 : (0 : Int) ≤ (k : Int) := by omega
              have hne : ((k : Int) == (s.size : Int)) = false := by simp; omega
              have bx0 := beh_cell c0
              have bx1 := beh_cell c1
              refine wp_region_beh (by kernel_rfl) (by kernel_rfl) ?_
              repeat
                (refine Qw_step (fun K hK => ?_)
                 go_simp
                 first
                   | (refine hK _ ?_; clear hK K)
                   | (apply Exists.intro
                      refine ⟨fun _ => ?_, hK _ ?_⟩
                      (fail)
                      clear hK K))
              refine Qw_nil ?_
              rintro w5 ⟨⟨_, hb5⟩, rfl⟩
              have H5 := H1.below hb5
              have B5 := Kept.mk (B1.out.trans (Bel.of hb5 H1.hB))
              clear hb5 bx0 bx1 H1 c0 c1
              have TG1 : Kept True := ⟨trivial⟩
              go_wp2_with (first | (go_at_call 57; refine (must_s_ok [60] (by decide) H5 KL.out).mono ?_; rintro e w6 ⟨rfl, H6, hb6⟩; have B6 := Kept.mk (B5.out.trans hb6); clear hb6) | (go_at_call 58; clear TG1; refine (may_not 63 (by decide) K63.out H6).mono ?_; rintro e w7 ⟨rfl, H7, hb7⟩; have B7 := Kept.mk (B6.out.trans hb7); clear hb7) | (go_at_call 58; refine (may_not 33 (by decide) K33.out H7).mono ?_; rintro e w8 ⟨rfl, H8, hb8⟩; have B8 := Kept.mk (B7.out.trans hb8); clear hb8) | (go_at_call 61; refine (no_s H8).mono ?_; rintro e w9 ⟨rfl, rfl⟩))
              exact ⟨rfl, B8.out, by rw [HX.out]; exact ⟨rfl, H8.len⟩⟩
            | false =>
              rw [if_neg (by decide)] at heq
              cases hel : Ppa.elemF s.size g 0 1 t st' with
              | none => rw [hel] at heq; cases heq
              | some oe =>
                rw [hel] at heq
                obtain ⟨f', rfl⟩ : ∃ f', g = f' + 1 := by
                  cases g with
                  | zero => unfold Ppa.elemF at hel; cases hel
                  | succ f => exact ⟨f, rfl⟩
                have CE := Kept.mk (fun (wx : World) (hx : Ps B b s st' t wx) (h9 : 1 ≤ s.size - t.length) => element_s (d := 1) 0 (both_s B b s f').1 hx hzm1 hzt1 (by have := hx.len; omega) h9 hel)
                cases oe with
                | error r2 =>
                  have HX : Kept (o = .error r2) := ⟨by injection heq with heq; exact heq.symm⟩
                  clear heq hz hbs hzm hzt h63 h33 hel
                  go_wp2_with (go_at_call 56; refine (blanks_s V.ps).mono ?_; rintro e w1 ⟨rfl, H1, hb1⟩; have B1 := Kept.mk (B0.out.trans hb1); clear hb1)
                  rw [HZ.out] at H1
                  have c0 := H1.c0
                  obtain ⟨k, hk, c1⟩ := H1.at_
                  have hk1 : k < s.size := by simp at hk; omega
                  have k0 : (0 : Int) ≤ (k : Int) := by omega
                  have hne : ((k : Int) == (s.size : Int)) = false := by simp; omega
                  have bx0 := beh_cell c0
                  have bx1 := beh_cell c1
                  refine wp_region_beh (by kernel_rfl) (by kernel_rfl) ?_
                  repeat
                    (refine Qw_step (fun K hK => ?_)
                     go_simp
                     first
                       | (refine hK _ ?_; clear hK K)
                       | (apply Exists.intro
                          refine ⟨fun _ => ?_, hK _ ?_⟩
                          (fail)
                          clear hK K))
                  refine Qw_nil ?_
                  rintro w5 ⟨⟨_, hb5⟩, rfl⟩
                  have H5 := H1.below hb5
                  have B5 := Kept.mk (B1.out.trans (Bel.of hb5 H1.hB))
                  clear hb5 bx0 bx1 H1 c0 c1
                  have hr9 : 1 ≤ s.size - t.length := by simp at hk; omega
                  have TG1 : Kept True := ⟨trivial⟩
                  go_wp2_with (first | (go_at_call 57; refine (must_s_ok [60] (by decide) H5 KL.out).mono ?_; rintro e w6 ⟨rfl, H6, hb6⟩; have B6 := Kept.mk (B5.out.trans hb6); clear hb6) | (go_at_call 58; clear TG1; refine (may_not 63 (by decide) K63.out H6).mono ?_; rintro e w7 ⟨rfl, H7, hb7⟩; have B7 := Kept.mk (B6.out.trans hb7); clear hb7) | (go_at_call 58; refine (may_not 33 (by decide) K33.out H7).mono ?_; rintro e w8 ⟨rfl, H8, hb8⟩; have B8 := Kept.mk (B7.out.trans hb8); clear hb8) | (go_at_call 62; refine (waysS_no (CE.out _ H8 hr9) rfl).mono ?_; rintro e w9 ⟨rfl, hl9, hb9⟩; have B9 := Kept.mk (B8.out.trans hb9); clear hb9))
                  exact ⟨rfl, B9.out, by rw [HX.out]; exact ⟨rfl, hl9⟩⟩
                | ok q2 =>
                  obtain ⟨r2, st2⟩ := q2
                  obtain ⟨a1, a2, a3⟩ := (Ppa.kc_all s.size (f' + 1)).elem 0 1 t st' r2 st2 hel
                  have HE := Kept.mk heq
                  have HT2 := Kept.mk (a3 hzt1)
                  have HM2 : Kept (Ppa.meas st2 r2 ≤ 300000) := ⟨by omega⟩
                  clear heq hz hbs hzm hzt h63 h33 hel a1 a2 a3
                  go_wp2_with (go_at_call 56; refine (blanks_s V.ps).mono ?_; rintro e w1 ⟨rfl, H1, hb1⟩; have B1 := Kept.mk (B0.out.trans hb1); clear hb1)
                  rw [HZ.out] at H1
                  have c0 := H1.c0
                  obtain ⟨k, hk, c1⟩ := H1.at_
                  have hk1 : k < s.size := by simp at hk; omega
                  have k0 : (0 : Int) ≤ (k : Int) := by omega
                  have hne : ((k : Int) == (s.size : Int)) = false := by simp; omega
                  have bx0 := beh_cell c0
                  have bx1 := beh_cell c1
                  refine wp_region_beh (by kernel_rfl) (by kernel_rfl) ?_
                  repeat
                    (refine Qw_step (fun K hK => ?_)
                     go_simp
                     first
                       | (refine hK _ ?_; clear hK K)
                       | (apply Exists.intro
                          refine ⟨fun _ => ?_, hK _ ?_⟩
                          (fail)
                          clear hK K))
                  refine Qw_nil ?_
                  rintro w5 ⟨⟨_, hb5⟩, rfl⟩
                  have H5 := H1.below hb5
                  have B5 := Kept.mk (B1.out.trans (Bel.of hb5 H1.hB))
                  clear hb5 bx0 bx1 H1 c0 c1
                  have hr9 : 1 ≤ s.size - t.length := by simp at hk; omega
                  have TG1 : Kept True := ⟨trivial⟩
                  go_wp2_with (first | (go_at_call 57; refine (must_s_ok [60] (by decide) H5 KL.out).mono ?_; rintro e w6 ⟨rfl, H6, hb6⟩; have B6 := Kept.mk (B5.out.trans hb6); clear hb6) | (go_at_call 58; clear TG1; refine (may_not 63 (by decide) K63.out H6).mono ?_; rintro e w7 ⟨rfl, H7, hb7⟩; have B7 := Kept.mk (B6.out.trans hb7); clear hb7) | (go_at_call 58; refine (may_not 33 (by decide) K33.out H7).mono ?_; rintro e w8 ⟨rfl, H8, hb8⟩; have B8 := Kept.mk (B7.out.trans hb8); clear hb8) | (go_at_call 62; refine (waysS_ok (CE.out _ H8 hr9) rfl).mono ?_; rintro e w9 ⟨rfl, H9, hb9⟩; have B9 := Kept.mk (B8.out.trans hb9); clear hb9))
                  go_roundg (f' + 1)
                  case measure => omega
                  case rel => exact ⟨true, st2, r2, rfl, ⟨H9, HM2.out, HT2.out, HE.out⟩, B9⟩
      · have hh : (Ppa.blanksL r').head? ≠ some 60 := by rw [hz]; intro e; injection e with e; exact y60 e
        rw [docF_bad (by rw [hz]; simp) hh, hz] at heq
        have HX : Kept (o = .error (y :: t)) := ⟨by injection heq with heq; exact heq.symm⟩
        have KL : Kept (Ppa.mustL [60] (y :: t) = .error (y :: t)) := ⟨mustL_one_no (by intro e; injection e with e; exact y60 e)⟩
        clear heq hz hbs hzm hzt hh y60
        go_wp2_with (go_at_call 56; refine (blanks_s V.ps).mono ?_; rintro e w1 ⟨rfl, H1, hb1⟩; have B1 := Kept.mk (B0.out.trans hb1); clear hb1)
        rw [HZ.out] at H1
        have c0 := H1.c0
        obtain ⟨k, hk, c1⟩ := H1.at_
        have hk1 : k < s.size := by simp at hk; omega
        have k0 : (0 : Int) ≤ (k : Int) := by omega
        have hne : ((k : Int) == (s.size : Int)) = false := by simp; omega
        have bx0 := beh_cell c0
        have bx1 := beh_cell c1
        refine wp_region_beh (by kernel_rfl) (by kernel_rfl) ?_
        repeat
          (refine Qw_step (fun K hK => ?_)
           go_simp
           first
             | (refine hK _ ?_; clear hK K)
             | (apply Exists.intro
                refine ⟨fun _ => ?_, hK _ ?_⟩
                (fail)
                clear hK K))
        refine Qw_nil ?_
        rintro w5 ⟨⟨_, hb5⟩, rfl⟩
        have H5 := H1.below hb5
        have B5 := Kept.mk (B1.out.trans (Bel.of hb5 H1.hB))
        clear hb5 bx0 bx1 H1 c0 c1
        go_wp2_with (go_at_call 57; refine (must_s_no [60] (by decide) H5 KL.out).mono ?_; rintro e w6 ⟨rfl, hl6, hb6⟩; have B6 := Kept.mk (B5.out.trans hb6); clear hb6)
        exact ⟨rfl, B6.out, by rw [HX.out]; exact ⟨rfl, hl6⟩⟩
set_option maxRecDepth 100000 in
set_option maxHeartbeats 4000000 in
theorem doc_decl_no {B b : Nat} {s : ByteArray} {w : World} (h : Ps B b s Ppa.st0 s.data.toList w) {o : Except Ppa.Bs Ppa.St} {x : UInt8} {t r1 : Ppa.Bs} (hx : Lib.hasPrefix s.data.toList xmlW = true) (hn : s.data.toList.drop 5 = x :: t) (hb : Pch.blankC x = true) (hd : Ppa.declM (x :: t) = .error r1) (he : o = .error r1) :
    Calls Tryz.prog 38 #[.pointer (some ⟨b, 0, none⟩)] w fun e w' => WaysD B b s w o e w' := by
  have B0 : Kept (Bel B b w w) := ⟨Bel.refl _ _ _⟩
  have hsm := h.small
  have hm : Ppa.meas Ppa.st0 s.data.toList ≤ 300000 := by
    unfold Ppa.meas Ppa.st0
    rw [size_len]
    simp
    omega
  have HX0 := Kept.mk hx
  have HE0 := Kept.mk he
  have HB1 := Kept.mk hb
  have HN0 : Kept (restL s.data.toList = x :: t) := ⟨by unfold restL; rw [if_pos hx, hn]⟩
  have HS1 : Kept ((⟨(x :: t).toArray⟩ : ByteArray).extract 0 1 = ⟨#[x]⟩) := ⟨(extract_part _ 0 1).trans rfl⟩
  have hz1 : ((⟨(x :: t).toArray⟩ : ByteArray)).size = t.length + 1 := by rw [Lib.size_mk]; rfl
  have HN1 := Kept.mk hn
  have HDC := Kept.mk hd
  clear hx he hn hb hd
  go_enter Tryz.func38, Tryz.ntmps38
  go_wp2_with (first | (go_at_call 52; refine (add_t 1 (by decide) [] [] (-1) h hm).mono ?_; rintro e w1 ⟨rfl, H1, hb1⟩; have B1 := Kept.mk (B0.out.trans hb1); clear hb1; have H1r : Ps B b s Ppa.stR s.data.toList w1 := H1; have d0 := H1r.c0; clear H1) | (go_at_call 53; refine (cut_call s w1).mono ?_; rintro e w2 ⟨rfl, rfl⟩; rw [HX0.out, HN0.out]) | (go_at_call 54; rw [HS1.out]; refine (blank1_call x w2).mono ?_; rintro e w3 ⟨rfl, hb3⟩; rw [HB1.out]; have H3 := H1r.below hb3; have B3 := Kept.mk (B1.out.trans (Bel.of hb3 H1r.hB)); clear hb3; obtain ⟨k, hk, c1⟩ := H3.at_; have f1 := H3.unf 1; have H4 := H3.put (r' := x :: t) (by rw [← HN1.out]; exact List.drop_suffix _ _) (z := 5) (by have h5 := congrArg List.length HN1.out; rw [List.length_drop, size_len] at h5; simp only [List.length_cons] at h5 ⊢; omega); have B4 := Kept.mk (B3.out.setCell (p := ⟨b, 1, none⟩) H3.le (.int .i64 5)); clear H3 B3) | (go_at_call 55; refine (decl_no H4 HDC.out).mono ?_; rintro e w5 ⟨rfl, hl5, hb5⟩; have B5 := Kept.mk (B4.out.trans hb5); clear hb5))
  exact ⟨rfl, B5.out, by rw [HE0.out]; exact ⟨rfl, hl5⟩⟩
theorem quotG_ok : ∀ (a r t : Ppa.Bs), (∀ c ∈ a, c.toNat < 128) → Ppa.quotG a r = .ok t → t <:+ r ∧ (Pch.textsL r = true → Pch.textsL t = true)
  | [], r, t, _, h => by injection h with h; rw [h]; exact ⟨List.suffix_refl _, id⟩
  | c :: a, [], t, _, h => by cases h
  | c :: a, x :: u, t, ha, h => by
    rw [Ppa.quotG] at h
    split at h
    · rename_i hx
      obtain ⟨h1, h2⟩ := quotG_ok a u t (fun z hz => ha z (by simp [hz])) h
      have hc := ha c (by simp)
      have hlow : x.toNat < 128 := by
        rcases hx with rfl | ⟨h3, rfl⟩
        · exact hc
        · rw [UInt8.toNat_sub_of_le _ _ (by rw [UInt8.le_iff_toNat_le] at h3 ⊢; exact Nat.le_trans (by decide) h3)]
          omega
      exact ⟨h1.trans (List.suffix_cons _ _), fun ht => h2 (Ppa.texts_low hlow ht)⟩
    · cases h
theorem quotM_ok {a r t : Ppa.Bs} (ha : ∀ c ∈ a, c.toNat < 128) (h : Ppa.quotM a r = .ok t) : t <:+ r ∧ (Pch.textsL r = true → Pch.textsL t = true) := by
  cases h1 : Ppa.mustL [61] (Ppa.blanksL r) with
  | error r1 => unfold Ppa.quotM at h; rw [h1] at h; cases h
  | ok r1 =>
    have s1 := (Ppa.mustL_suf h1).trans (Ppa.blanksL_suf r)
    have t1 := fun ht => mustL_texts _ _ _ (by decide) (Ppa.blanksL_texts (r := r) ht) h1
    have key : ∀ (q : UInt8) (u : Ppa.Bs), Ppa.blanksL r1 = q :: u → q = 34 ∨ q = 39 → quotE q a u = .ok t → t <:+ r ∧ (Pch.textsL r = true → Pch.textsL t = true) := by
      intro q u hu hq he
      have hlow : q.toNat < 128 := by rcases hq with rfl | rfl <;> decide
      have s2 : u <:+ r := ((List.suffix_cons q u).trans (hu ▸ Ppa.blanksL_suf r1)).trans s1
      have t2 := fun ht => Ppa.texts_low hlow (hu ▸ Ppa.blanksL_texts (t1 ht))
      unfold quotE at he
      cases hg : Ppa.quotG a u with
      | error r2 => rw [hg] at he; cases he
      | ok r2 =>
        rw [hg] at he
        dsimp only at he
        obtain ⟨s3, t3⟩ := quotG_ok a u r2 ha hg
        exact ⟨((Ppa.mustL_suf he).trans s3).trans s2, fun ht => mustL_texts _ _ _ (by intro c hc; simp at hc; subst hc; exact hlow) (t3 (t2 ht)) he⟩
    by_cases h2 : (Ppa.blanksL r1).head? = some 34
    · obtain ⟨u, hu⟩ := head_cons h2
      rw [quotM_some h1 hu (.inl rfl)] at h
      exact key 34 u hu (.inl rfl) h
    · by_cases h3 : (Ppa.blanksL r1).head? = some 39
      · obtain ⟨u, hu⟩ := head_cons h3
        rw [quotM_some h1 hu (.inr rfl)] at h
        exact key 39 u hu (.inr rfl) h
      · rw [quotM_none h1 h2 h3] at h
        cases h
theorem declM_ok {r t : Ppa.Bs} (h : Ppa.declM r = .ok t) : t <:+ r ∧ (Pch.textsL r = true → Pch.textsL t = true) := by
  unfold Ppa.declM at h
  cases h1 : Ppa.mustL [118, 101, 114, 115, 105, 111, 110] (Ppa.blanksL r) with
  | error r1 => rw [h1] at h; cases h
  | ok r1 =>
    rw [h1] at h
    dsimp only at h
    have s1 := (Ppa.mustL_suf h1).trans (Ppa.blanksL_suf r)
    have t1 := fun ht => mustL_texts _ _ _ (by decide) (Ppa.blanksL_texts (r := r) ht) h1
    cases h2 : Ppa.quotM [49, 46, 48] r1 with
    | error r2 => rw [h2] at h; cases h
    | ok r2 =>
      rw [h2] at h
      dsimp only at h
      obtain ⟨s2, t2⟩ := quotM_ok (by decide) h2
      have s3 := (Ppa.blanksL_suf r2).trans (s2.trans s1)
      have t3 := fun ht => Ppa.blanksL_texts (t2 (t1 ht))
      by_cases hcond : blankH r2 = true ∧ (Ppa.blanksL r2).head? = some 101
      · have h : (if blankH r2 = true ∧ (Ppa.blanksL r2).head? = some 101 then _ else _) = _ := h
        rw [if_pos hcond] at h
        cases h3 : Ppa.mustL [101, 110, 99, 111, 100, 105, 110, 103] (Ppa.blanksL r2) with
        | error r3 => rw [h3] at h; cases h
        | ok r3 =>
          rw [h3] at h
          dsimp only at h
          cases h4 : Ppa.quotM [117, 116, 102, 45, 56] r3 with
          | error r4 => rw [h4] at h; cases h
          | ok r4 =>
            rw [h4] at h
            dsimp only at h
            obtain ⟨s4, t4⟩ := quotM_ok (by decide) h4
            exact ⟨(Ppa.mustL_suf h).trans ((Ppa.blanksL_suf r4).trans (s4.trans ((Ppa.mustL_suf h3).trans s3))), fun ht => mustL_texts _ _ _ (by decide) (Ppa.blanksL_texts (t4 (mustL_texts _ _ _ (by decide) (t3 ht) h3))) h⟩
      · have h : (if blankH r2 = true ∧ (Ppa.blanksL r2).head? = some 101 then _ else _) = _ := h
        rw [if_neg hcond] at h
        exact ⟨(Ppa.mustL_suf h).trans s3, fun ht => mustL_texts _ _ _ (by decide) (t3 ht) h⟩
theorem xml_app {l : Ppa.Bs} (h : Lib.hasPrefix l xmlW = true) : l = xmlW ++ l.drop 5 := by
  obtain ⟨u, hu⟩ := List.isPrefixOf_iff_prefix.1 h
  rw [← hu]
  rfl
theorem document_s {B b F : Nat} {s : ByteArray} {w : World} (h : Ps B b s Ppa.st0 s.data.toList w) (ht : Pch.textsL s.data.toList = true) {o : Except Ppa.Bs Ppa.St} (he : Ppa.docM s.size F s.data.toList = some o) :
    Calls Tryz.prog 38 #[.pointer (some ⟨b, 0, none⟩)] w fun e w' => WaysD B b s w o e w' := by
  have hsm := h.small
  cases hx : Lib.hasPrefix s.data.toList xmlW with
  | false =>
    unfold Ppa.docM at he
    rw [if_neg (by rw [show Lib.hasPrefix s.data.toList [60, 63, 120, 109, 108] = false from hx]; rintro ⟨h, _⟩; cases h)] at he
    exact doc_plain h ht hx he
  | true =>
    have hxt := hx
    change Lib.hasPrefix s.data.toList [60, 63, 120, 109, 108] = true at hxt
    cases hn : s.data.toList.drop 5 with
    | nil =>
      unfold Ppa.docM at he
      rw [hn, if_neg (by rintro ⟨_, h⟩; cases h)] at he
      exact doc_short h ht hx hn he
    | cons x t =>
      cases hb : Pch.blankC x with
      | false =>
        unfold Ppa.docM at he
        rw [hn, if_neg (by rintro ⟨_, h⟩; change Pch.blankC x = true at h; rw [hb] at h; cases h)] at he
        exact doc_nob h ht hx hn hb he
      | true =>
        unfold Ppa.docM at he
        rw [hn, if_pos ⟨hxt, hb⟩] at he
        cases hd : Ppa.declM (x :: t) with
        | error r1 =>
          rw [hd] at he
          injection he with he
          exact doc_decl_no h hx hn hb hd he.symm
        | ok r1 =>
          rw [hd] at he
          dsimp only at he
          obtain ⟨s1, t1⟩ := declM_ok hd
          have h5 : Pch.textsL (x :: t) = true := by
            have h6 := xml_app hx
            rw [h6] at ht
            rw [← hn]
            exact Ppa.texts_lit xmlW _ (by decide) ht
          have hl : r1.length ≤ s.size := by
            have h7 := s1.length_le
            have h8 := congrArg List.length hn
            rw [List.length_drop, size_len] at h8
            omega
          exact doc_decl h hx hn hb hd (t1 h5) (by unfold Ppa.meas Ppa.stR; simp; omega) he
set_option maxRecDepth 100000 in
theorem fragment_s {B b F : Nat} {s : ByteArray} {w : World} (h : Ps B b s Ppa.st0 s.data.toList w) (ht : Pch.textsL s.data.toList = true) {o : Except Ppa.Bs Ppa.St} (he : Ppa.fragM s.size F s.data.toList = some o) :
    Calls Tryz.prog 23 #[.pointer (some ⟨b, 0, none⟩)] w fun e w' => WaysD B b s w o e w' := by
  have hsm := h.small
  have hz := size_len s
  unfold Ppa.fragM at he
  cases hc : Ppa.contF s.size F (-1) 0 0 s.data.toList Ppa.st0 with
  | none => rw [hc] at he; cases he
  | some oc =>
    rw [hc] at he
    have CC := Kept.mk ((both_s B b s F).1 (-1) 0 Ppa.st0 s.data.toList w oc h (by unfold Ppa.meas Ppa.st0; simp only [List.length_nil]; omega) ht (by decide) (by decide) (by omega) hc)
    clear hc hz
    cases oc with
    | error r1 =>
      injection he with he
      have HO := Kept.mk he.symm
      clear he
      go_enter Tryz.func23, Tryz.ntmps23
      go_wp2_with (go_at_call 42; refine (waysS_no CC.out rfl).mono ?_; rintro e w1 ⟨rfl, hl1, hb1⟩)
      exact ⟨rfl, hb1, by rw [HO.out]; exact ⟨rfl, hl1⟩⟩
    | ok q =>
      obtain ⟨r1, st1⟩ := q
      injection he with he
      have HO := Kept.mk he.symm
      clear he
      go_enter Tryz.func23, Tryz.ntmps23
      go_wp2_with (go_at_call 42; refine (waysS_ok CC.out rfl).mono ?_; rintro e w1 ⟨rfl, H1, hb1⟩)
      go_end0
      exact ⟨hb1, by rw [HO.out]; exact ⟨rfl, _, H1⟩⟩
end Go.Proofs.YtemfmidhekdekaaGreatDoor.Wps
