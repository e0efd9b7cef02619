/- The program's parser: blanks, fixed words. -/
import Derived.Test.YtlemdhfekdiaeaaGreatDoorParseK
import Derived.Laws.RangeAny
import Derived.LoopN
import Derived.Deep.LoopGhost
namespace Go.Proofs.YtlemdhfekdiaeaaGreatDoor.Wps
open Go Go.RowKit Go.Proofs.YtlemdhfekdiaeaaGreatDoor.Kb Go.Proofs.YtlemdhfekdiaeaaGreatDoor.Wch

theorem peek_low (c : UInt8) (t : Ppa.Bs) (h : c.toNat < 128) : Ppa.peek (c :: t) = (c.toNat : Int) := by
  unfold Ppa.peek
  rw [if_neg (by simp), Lib.decodeL_ascii c t h]
theorem skip_low (c : UInt8) (t : Ppa.Bs) (h : c.toNat < 128) : Ppa.skip (c :: t) = t := by
  unfold Ppa.skip
  rw [Lib.decodeL_ascii c t h]
  rfl
theorem peek_high (c : UInt8) (t : Ppa.Bs) (h : 128 ≤ c.toNat) : 128 ≤ Ppa.peek (c :: t) := by
  unfold Ppa.peek
  rw [if_neg (by simp)]
  have h1 := (decode_high ⟨(c :: t).toArray⟩ 0 (by simp [ByteArray.size]) h).1
  rw [← Lib.decodeL_drop] at h1
  simp only [List.drop_zero] at h1
  omega
theorem peek_is (c : UInt8) (hc : c.toNat < 128) (r : Ppa.Bs) : Ppa.peek r = (c.toNat : Int) ↔ r.head? = some c := by
  cases r with
  | nil => simp [Ppa.peek]
  | cons y t =>
    rcases Nat.lt_or_ge y.toNat 128 with hy | hy
    · rw [peek_low y t hy]
      simp only [List.head?_cons, Option.some.injEq]
      constructor
      · intro h
        exact UInt8.toNat_inj.1 (by omega)
      · rintro rfl
        rfl
    · have := peek_high y t hy
      simp only [List.head?_cons, Option.some.injEq]
      constructor
      · intro h; omega
      · rintro rfl; omega
/-- a blank stands next -/
def blankH : Ppa.Bs → Bool
  | x :: _ => Pch.blankC x
  | [] => false
theorem blankH_peek (r : Ppa.Bs) : (((Ppa.peek r == 32) || (Ppa.peek r == 9)) || (Ppa.peek r == 10) || (Ppa.peek r == 13)) = blankH r := by
  cases r with
  | nil => rfl
  | cons y t =>
    unfold blankH Pch.blankC
    rcases Nat.lt_or_ge y.toNat 128 with hy | hy
    · rw [peek_low y t hy]
      rw [Bool.eq_iff_iff]
      simp only [Bool.or_eq_true, beq_iff_eq, ← UInt8.toNat_inj]
      simp
      omega
    · have h1 := peek_high y t hy
      rw [Bool.eq_iff_iff]
      simp only [Bool.or_eq_true, beq_iff_eq, ← UInt8.toNat_inj]
      simp
      omega
theorem blankC_low {x : UInt8} (h : Pch.blankC x = true) : x.toNat < 128 := by
  simp only [Pch.blankC, Bool.or_eq_true, beq_iff_eq] at h
  rcases h with ((rfl | rfl) | rfl) | rfl <;> decide
theorem blanksL_of_false {r : Ppa.Bs} (h : blankH r = false) : Ppa.blanksL r = r := by
  cases r with
  | nil => rfl
  | cons y t => exact List.dropWhile_cons_of_neg (by intro e; rw [show blankH (y :: t) = Pch.blankC y from rfl, e] at h; cases h)
theorem blanksL_of_true {y : UInt8} {t : Ppa.Bs} (h : blankH (y :: t) = true) : Ppa.blanksL (y :: t) = Ppa.blanksL t := List.dropWhile_cons_of_pos h
theorem ret_bool {a b : Bool} (h : a = b) : Ending.returned (.bool a) = .returned (.bool b) := by rw [h]
set_option maxRecDepth 100000 in
theorem blank_r {B b : Nat} {s : ByteArray} {x : List Value} {r : Ppa.Bs} {w : World} (h : Pa B b s x r w) :
    Calls Tryz.prog 76 #[.pointer (some ⟨b, 0, none⟩)] w fun e w' => e = .returned (.bool (blankH r)) ∧ Below w.heap.size w w' := by
  have hb := blankH_peek r
  generalize hP : Ppa.peek r = P at hb
  have HB := Kept.mk hb
  have HP := Kept.mk hP
  clear hb hP
  go_enter Tryz.func76, Tryz.ntmps76
  by_cases h1 : P = 32
  · subst h1
    go_wp2_with (go_at_call 77; refine (peek_r h).mono ?_; rintro e w1 ⟨rfl, hb1⟩; rw [HP.out]; have B1 := Kept.mk hb1; clear hb1)
    go_ret
    exact ⟨ret_bool HB.out, B1.out⟩
  · have e1 : (P == 32) = false := by simpa using h1
    rw [e1] at HB
    by_cases h2 : P = 9
    · subst h2
      go_wp2_with (go_at_call 77; refine (peek_r h).mono ?_; rintro e w1 ⟨rfl, hb1⟩; rw [HP.out]; have B1 := Kept.mk hb1; clear hb1)
      go_ret
      exact ⟨ret_bool HB.out, B1.out⟩
    · have e2 : (P == 9) = false := by simpa using h2
      rw [e2] at HB
      by_cases h3 : P = 10
      · subst h3
        go_wp2_with (go_at_call 77; refine (peek_r h).mono ?_; rintro e w1 ⟨rfl, hb1⟩; rw [HP.out]; have B1 := Kept.mk hb1; clear hb1)
        go_ret
        exact ⟨ret_bool HB.out, B1.out⟩
      · have e3 : (P == 10) = false := by simpa using h3
        rw [e3] at HB
        go_wp2_with (go_at_call 77; refine (peek_r h).mono ?_; rintro e w1 ⟨rfl, hb1⟩; rw [HP.out]; have B1 := Kept.mk hb1; clear hb1)
        go_ret
        exact ⟨ret_bool HB.out, B1.out⟩
theorem Pa.cell {B b : Nat} {s : ByteArray} {x : List Value} {r : Ppa.Bs} {w : World} (h : Pa B b s x r w) : ∃ k : Nat, k + r.length = s.size ∧ w.cell? ⟨b, 1, none⟩ = some (.int .i64 (k : Int)) :=
  ⟨s.size - r.length, by have := h.len; omega, h.row.c1⟩
theorem Pa.put {B b : Nat} {s : ByteArray} {x : List Value} {r r' : Ppa.Bs} {w : World} (h : Pa B b s x r w) (hs : r' <:+ s.data.toList) {v : Int} (hv : v + r'.length = s.size) : Pa B b s x r' (w.setCell ⟨b, 1, none⟩ (.int .i64 v)) := by
  have h1 := h.row.set (s.size - r'.length)
  have hl := hs.length_le
  rw [size_len] at hl
  have e : ((s.size - r'.length : Nat) : Int) = v := by omega
  rw [e] at h1
  exact ⟨h1, hs, h.ev.grown h.le (grown_set (World.grownBy.refl _ _) 1 _), h.le, h.small⟩
set_option maxRecDepth 100000 in
theorem blanks_r {B b : Nat} {s : ByteArray} {x : List Value} {r : Ppa.Bs} {w : World} (h : Pa B b s x r w) :
    Calls Tryz.prog 39 #[.pointer (some ⟨b, 0, none⟩)] w fun e w' => e = .returned (.tuple #[]) ∧ Pa B b s x (Ppa.blanksL r) w' ∧ w.grownBy w' (some b) := by
  generalize hT : Ppa.blanksL r = T
  have HT := Kept.mk hT
  clear hT
  go_enter Tryz.func39, Tryz.ntmps39
  go_wp2
  go_loopg [] r.length (fun g wx => ∃ r' : Ppa.Bs, Pa B b s x r' wx ∧ Kept (w.grownBy wx (some b)) ∧ Kept (Ppa.blanksL r' = T) ∧ r'.length ≤ g)
  case atStart => exact ⟨r, h, ⟨World.grownBy.refl _ _⟩, HT, Nat.le_refl _⟩
  case round =>
    obtain ⟨r', hP, G, HE, hle⟩ := hrel
    generalize hB : blankH r' = C
    have HB := Kept.mk hB
    cases C
    · clear hB
      go_wp2_with (go_at_call 76; refine (blank_r hP).mono ?_; rintro e w1 ⟨rfl, hb1⟩; rw [HB.out]; have H1 := hP.below hb1; have G1 := Kept.mk (grown_of_below hb1 (some b)); clear hb1)
      go_end0
      exact ⟨rfl, by rw [← HE.out, blanksL_of_false HB.out]; exact H1, G.out.trans G1.out⟩
    · obtain ⟨y, t, rfl⟩ : ∃ y t, r' = y :: t := by
        cases r' with
        | nil => cases hB
        | cons y t => exact ⟨y, t, rfl⟩
      clear hB
      obtain ⟨g, rfl⟩ : ∃ g, gk = g + 1 := ⟨gk - 1, by simp at hle; omega⟩
      go_wp2_with (go_at_call 76; refine (blank_r hP).mono ?_; rintro e w1 ⟨rfl, hb1⟩; rw [HB.out]; have H1 := hP.below hb1; have G1 := Kept.mk (grown_of_below hb1 (some b)); clear hb1; have hs9 := H1.small; obtain ⟨k, hk, c1⟩ := H1.cell; have f1 := H1.row.unf 1; have k0 : (0 : Int) ≤ (k : Int) := (by omega); have k1 : (k : Int) ≤ 65536 := (by omega))
      go_roundg g
      case measure => simp at hle; omega
      case rel => exact ⟨t, H1.put ((List.suffix_cons _ _).trans H1.suf) (by simp at hk; omega), ⟨grown_set (G.out.trans G1.out) 1 _⟩, ⟨by rw [← HE.out, blanksL_of_true HB.out]⟩, by simp at hle; omega⟩
theorem mustL_ne {c : UInt8} {u r : Ppa.Bs} (h : r.head? ≠ some c) : Ppa.mustL (c :: u) r = .error r := by
  cases r with
  | nil => rfl
  | cons y t =>
    have : y ≠ c := fun e => h (by rw [e]; rfl)
    simp [Ppa.mustL, this]
theorem mustL_eq (c : UInt8) (u t : Ppa.Bs) : Ppa.mustL (c :: u) (c :: t) = Ppa.mustL u t := by simp [Ppa.mustL]
theorem low_at (a : ByteArray) (ha : ∀ c ∈ a.data.toList, c.toNat < 128) (pos : Nat) (h : pos < a.size) : ∃ c : UInt8, c.toNat < 128 ∧ a.data.toList.drop pos = c :: a.data.toList.drop (pos + 1) ∧ Utf8.decode a pos = (c.toNat, 1) := by
  have hl : pos < a.data.toList.length := by rw [size_len]; exact h
  have hd := List.drop_eq_getElem_cons hl
  have hc := ha _ (List.getElem_mem hl)
  refine ⟨a.data.toList[pos], hc, hd, ?_⟩
  rw [← Lib.decodeL_drop, hd]
  exact Lib.decodeL_ascii _ _ hc
theorem Pa.iter {B b k : Nat} {s : ByteArray} {x : List Value} {r : Ppa.Bs} {w : World} (h : Pa B b s x r w) (hk : B ≤ k) (hb : b ≠ k) (a : ByteArray) (pos : Nat) : Pa B b s x r (w.iterAt k a pos) :=
  ⟨(Lib.iterAt_other w k b a pos hb).trans h.row, h.suf, h.ev.below (Lib.below_iterAt (Below.refl _ _) hk a pos), h.le, h.small⟩
theorem grown_iter {w w' : World} {row : Option Nat} (h : w.grownBy w' row) (a : ByteArray) (pos : Nat) : w.grownBy (w'.iterAt w.heap.size a pos) row :=
  ⟨h.os, h.tape, h.output, by rw [Lib.iterAt_size]; exact h.size, fun j hj hne => (Lib.iterAt_other w' w.heap.size j a pos (by omega)).trans (h.block j hj hne)⟩
set_option maxRecDepth 100000 in
theorem must_r {B b : Nat} {s : ByteArray} {x : List Value} {r : Ppa.Bs} {w : World} (a : ByteArray) (ha : ∀ c ∈ a.data.toList, c.toNat < 128) (h : Pa B b s x r w) :
    Calls Tryz.prog 40 #[.pointer (some ⟨b, 0, none⟩), .string a] w fun e w' => Ways B b s x w (.tuple #[]) (Ppa.mustL a.data.toList r) e w' := by
  have hlt := h.row.lt
  have hB0 : B ≤ w.heap.size := h.ev.le
  generalize hT : Ppa.mustL a.data.toList r = T
  have HT := Kept.mk hT
  clear hT
  go_enter Tryz.func40, Tryz.ntmps40
  go_wp2
  go_loopg [] a.size (fun g wx => ∃ (pos : Nat) (r' : Ppa.Bs), wx.heap[w.heap.size]? = some (.stringIter a pos) ∧ Pa B b s x r' wx ∧ Kept (w.grownBy wx (some b)) ∧ Kept (Ppa.mustL (a.data.toList.drop pos) r' = T) ∧ a.size ≤ pos + g)
  case atStart => exact ⟨0, r, World.iter_heap w a 0, h.below ((Below.refl _ w).alloc (Nat.le_refl _) _), ⟨grown_of_below ((Below.refl _ w).alloc (Nat.le_refl _) _) _⟩, HT, by omega⟩
  case round =>
    obtain ⟨pos, r', hit, hP, G, HE, hle⟩ := hrel
    have hsz : w.heap.size < wr.heap.size := (Array.getElem?_eq_some_iff.1 hit).1
    by_cases hp : pos < a.size
    · obtain ⟨g, rfl⟩ : ∃ g, gk = g + 1 := ⟨gk - 1, by omega⟩
      obtain ⟨c, hc, hdr, hdec⟩ := low_at a ha pos hp
      have hnx : ∀ ty, (Instr.next (.pointer (some ⟨w.heap.size, 0, none⟩)) true ty).run Tryz.prog wr = _ := fun ty => Lib.run_next_any_at wr w.heap.size a pos ty hit hp
      rw [hdec] at hnx
      have hit2 := Lib.iterAt_heap wr w.heap.size a pos (pos + 1) hit
      have hP2 := hP.iter (k := w.heap.size) hB0 (by omega) a (pos + 1)
      have hG2 := grown_iter G.out a (pos + 1)
      obtain ⟨W, hWd⟩ : ∃ W, wr.iterAt w.heap.size a (pos + 1) = W := ⟨_, rfl⟩
      rw [hWd] at hnx hit2 hP2 hG2
      have hWs : w.heap.size < W.heap.size := (Array.getElem?_eq_some_iff.1 hit2).1
      have hpk := peek_is c hc r'
      have h1 := HE.out
      rw [hdr] at h1
      have H2 := Kept.mk h1
      have HG2 := Kept.mk hG2
      clear HE h1 hdr hdec G hG2 hit hP hWd
      by_cases heq : r'.head? = some c
      · obtain ⟨t, rfl⟩ : ∃ t, r' = c :: t := by
          cases r' with
          | nil => cases heq
          | cons y t => exact ⟨t, by injection heq with e; rw [e]⟩
        have hq := hpk.2 heq
        have CM := Kept.mk (may_r (c.toNat : Int) (by omega) hP2)
        rw [decide_eq_true hq, if_pos hq, skip_low c t hc] at CM
        clear hq hpk heq
        go_wp2_with (go_at_call 41; refine CM.out.mono ?_; rintro e w1 ⟨rfl, hP1, hg1⟩; have G1 := Kept.mk hg1; clear hg1)
        go_roundg g
        case measure => omega
        case rel => exact ⟨pos + 1, t, (G1.out.block _ hWs (by intro e; injection e with e; omega)).trans hit2, hP1, ⟨HG2.out.trans G1.out⟩, ⟨by rw [← H2.out, mustL_eq]⟩, by omega⟩
      · have hq := fun e => heq (hpk.1 e)
        have CM := Kept.mk (may_r (c.toNat : Int) (by omega) hP2)
        rw [decide_eq_false hq, if_neg hq] at CM
        have HX := Kept.mk (H2.out.symm.trans (mustL_ne heq))
        clear hq hpk heq
        go_wp2_with (first | (go_at_call 41; refine CM.out.mono ?_; rintro e w1 ⟨rfl, hP1, hg1⟩; have G1 := Kept.mk hg1; clear hg1) | (go_at_call 44; refine (no_r hP1).mono ?_; rintro e w2 ⟨rfl, rfl⟩))
        exact ⟨rfl, HG2.out.trans G1.out, by rw [HX.out]; exact ⟨rfl, hP1.len⟩⟩
    · have hnx : ∀ ty, (Instr.next (.pointer (some ⟨w.heap.size, 0, none⟩)) true ty).run Tryz.prog wr = _ := fun ty => Lib.run_next_end_at wr w.heap.size a pos ty hit hp
      have h1 := HE.out
      rw [List.drop_eq_nil_of_le (by rw [size_len]; omega)] at h1
      have H1 : Kept (T = .ok r') := ⟨h1.symm⟩
      clear h1 HE
      go_wp2
      go_end0
      exact ⟨G.out, by rw [H1.out]; exact ⟨rfl, hP⟩⟩
end Go.Proofs.YtlemdhfekdiaeaaGreatDoor.Wps
