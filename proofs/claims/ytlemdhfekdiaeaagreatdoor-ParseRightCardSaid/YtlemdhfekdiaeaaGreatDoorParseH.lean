/- The program's parser: an attribute's value. -/
import Derived.Test.YtlemdhfekdiaeaaGreatDoorParseG
namespace Go.Proofs.YtlemdhfekdiaeaaGreatDoor.Wps
open Go Go.RowKit Go.Proofs.YtlemdhfekdiaeaaGreatDoor.Kb Go.Proofs.YtlemdhfekdiaeaaGreatDoor.Wch Go.Proofs.YtlemdhfekdiaeaaGreatDoor.Emk

theorem lies_bld : liesAt Tryz.prog Tryz.prog.depth 43 ((([] : List Value).length + 2 + ([] : List Value).length) / Tryz.prog.cellsOf 43) ([] : List Value).length 43 1 = true := by kernel_rfl
theorem bld_ne : 43 ≠ 5 := by decide
theorem bld_fresh (w : World) : Is 43 [] [] w.heap.size w.heap.size [] (w.alloc (.cells #[.pointer none, .slice none 0 0] 43)) :=
  .inl ⟨.slice none 0 0, heap_alloc_new w _, World.ownsRow_nil _ _ _ _, by simp [Value.ownBlock]⟩
/-- where the loop of value stands -/
structure Vs (B b W : Nat) (s : ByteArray) (x : List Value) (w0 : World) (q : UInt8) (o : Except Ppa.Bs (Ppa.Bs × Ppa.Bs)) (L g : Nat) (acc r : Ppa.Bs) (w : World) : Prop where
  pa : Pa B b s x r w
  bld : Is 43 [] [] W W acc w
  grown : w0.grownBy w (some b)
  val : Ppa.valF q g acc r = some o
  fuel : r.length < g
  tx : Pch.textsL r = true
  room : acc.length + 4 * r.length ≤ L
theorem Vs.below {B b W : Nat} {s : ByteArray} {x : List Value} {w0 : World} {q : UInt8} {o : Except Ppa.Bs (Ppa.Bs × Ppa.Bs)} {L g : Nat} {acc r : Ppa.Bs} {w w' : World} (h : Vs B b W s x w0 q o L g acc r w) (hb : Below w.heap.size w w') : Vs B b W s x w0 q o L g acc r w' :=
  ⟨h.pa.below hb, h.bld.below hb, h.grown.trans (grown_of_below hb _), h.val, h.fuel, h.tx, h.room⟩
set_option maxRecDepth 100000 in
set_option maxHeartbeats 2000000 in
theorem value_quot {B b : Nat} {s : ByteArray} {x : List Value} {t : Ppa.Bs} {w : World} (h : Pa B b s x (34 :: t) w) (ht : Pch.textsL t = true) :
    Calls Tryz.prog 120 #[.pointer (some ⟨b, 0, none⟩)] w fun e w' => WaysV B b s x w strV (Ppa.valM (34 :: t)) e w' := by
  obtain ⟨o, ho⟩ := valF_some 34 (t.length + 1) [] t (by omega)
  have hM : Ppa.valM (34 :: t) = o := by
    unfold Ppa.valM
    simp [ho]
  rw [hM]
  have HO := Kept.mk ho
  have HT := Kept.mk ht
  have HQ : Kept (Ppa.peek (34 :: t) = 34) := ⟨(peek_is 34 (by decide) _).2 rfl⟩
  have hblt := h.row.lt
  have hBw : B ≤ w.heap.size := h.ev.le
  clear hM ho ht
  go_enter Tryz.func120, Tryz.ntmps120
  go_wp2_with (go_at_call 77; refine (peek_r h).mono ?_; rintro e w1 ⟨rfl, hb1⟩; rw [HQ.out]; have hz1 := hb1.size; have H1 := h.below hb1; have G1 := Kept.mk (grown_of_below hb1 (some b)); clear hb1; have hs9 := H1.small; obtain ⟨k, hk, c1⟩ := H1.cell; have f1 := H1.row.unf 1; have k0 : (0 : Int) ≤ (k : Int) := (by omega); have k1 : (k : Int) ≤ 65536 := (by omega); have HP3 : Pa B b s x t (w1.setCell ⟨b, 1, none⟩ (.int .i64 ((k : Int) + 1))) := H1.put ((List.suffix_cons _ _).trans H1.suf) (by simp at hk; omega); have G3 := Kept.mk (grown_set G1.out 1 (.int .i64 ((k : Int) + 1))))
  go_loopg [5] (t.length + 1) (fun g _ wx => ∃ acc r' : Ppa.Bs, Vs B b w1.heap.size s x w 34 o (4 * t.length) g acc r' wx)
  case atStart =>
    have hI := bld_fresh (w1.setCell ⟨b, 1, none⟩ (.int .i64 ((k : Int) + 1)))
    have hz : (w1.setCell ⟨b, 1, none⟩ (.int .i64 ((k : Int) + 1))).heap.size = w1.heap.size := by simp
    rw [hz] at hI
    have hbb : ∀ o', Below w1.heap.size (w1.setCell ⟨b, 1, none⟩ (.int .i64 ((k : Int) + 1))) ((w1.setCell ⟨b, 1, none⟩ (.int .i64 ((k : Int) + 1))).alloc o') := fun o' => (Below.refl _ _).alloc (by rw [hz]; exact Nat.le_refl _) o'
    exact ⟨[], t, HP3.low (hbb _) (by omega) (by omega), hI, grown_low G3.out ((hbb _).mono hz1), HO.out, by omega, HT.out, by simp⟩
  case round =>
    obtain ⟨acc, r', V⟩ := hrel
    have hbW : b < w1.heap.size := by omega
    have hBW : B ≤ w1.heap.size := by omega
    have htl : t.length ≤ 65536 := by have h1 := h.len; have h2 := h.small; simp at h1; omega
    clear HP3 H1 G1 G3 c1 f1 hk k0 k1 HQ h
    obtain ⟨g, rfl⟩ : ∃ g, gk = g + 1 := ⟨gk - 1, by have := V.fuel; omega⟩
    cases r' with
    | nil =>
      have HX : Kept (o = .error []) := ⟨by have h1 := V.val; rw [Ppa.valF] at h1; injection h1 with h1; exact h1.symm⟩
      have HP : Kept (Ppa.peek [] = -1) := ⟨rfl⟩
      go_wp2_with (first | (go_at_call 77; refine (peek_r V.pa).mono ?_; rintro e w3 ⟨rfl, hb3⟩; rw [HP.out]; have V3 := V.below hb3; clear hb3) | (go_at_call 44; refine (no_r V3.pa).mono ?_; rintro e w4 ⟨rfl, rfl⟩))
      exact ⟨rfl, V3.grown, by rw [HX.out]; exact ⟨rfl, by simp⟩⟩
    | cons y u =>
      by_cases y0 : y = 34
      · subst y0
        have HX : Kept (o = .ok (acc, u)) := ⟨by have h1 := V.val; rw [Ppa.valF, if_pos rfl] at h1; injection h1 with h1; exact h1.symm⟩
        have HP : Kept (Ppa.peek (34 :: u) = 34) := ⟨(peek_is 34 (by decide) _).2 rfl⟩
        go_wp2_with (first | (go_at_call 77; refine (peek_r V.pa).mono ?_; rintro e w3 ⟨rfl, hb3⟩; rw [HP.out]; have V3 := V.below hb3; clear hb3; obtain ⟨k, hk, c1⟩ := V3.pa.cell; have f1 := V3.pa.row.unf 1; have k0 : (0 : Int) ≤ (k : Int) := (by omega); have k1 : (k : Int) ≤ 65536 := (by have := V3.pa.small; omega); have HP4 : Pa B b s x u (w3.setCell ⟨b, 1, none⟩ (.int .i64 ((k : Int) + 1))) := V3.pa.put ((List.suffix_cons _ _).trans V3.pa.suf) (by simp at hk; omega); have HG4 := grown_set (World.grownBy.refl w3 (some b)) 1 (.int .i64 ((k : Int) + 1)); have HI4 := Is_grown V3.bld HG4 hbW (Nat.le_refl _); have G4 := Kept.mk (V3.grown.trans HG4); clear HG4) | (go_at_call 31; refine (string_any (Nat.le_refl _) HI4).mono ?_; rintro e w5 ⟨rfl, _, hb5, _⟩; have H5 := HP4.low hb5 hbW hBW; have G5 := Kept.mk (grown_low G4.out (hb5.mono hz1)); clear hb5))
        go_ret
        exact ⟨G5.out, by rw [HX.out]; exact ⟨rfl, H5⟩⟩
      · by_cases y1 : y = 60
        · subst y1
          have HX : Kept (o = .error (60 :: u)) := ⟨by have h1 := V.val; rw [Ppa.valF, if_neg y0, if_pos rfl] at h1; injection h1 with h1; exact h1.symm⟩
          have HP : Kept (Ppa.peek (60 :: u) = 60) := ⟨(peek_is 60 (by decide) _).2 rfl⟩
          go_wp2_with (first | (go_at_call 77; refine (peek_r V.pa).mono ?_; rintro e w3 ⟨rfl, hb3⟩; rw [HP.out]; have V3 := V.below hb3; clear hb3) | (go_at_call 44; refine (no_r V3.pa).mono ?_; rintro e w4 ⟨rfl, rfl⟩))
          exact ⟨rfl, V3.grown, by rw [HX.out]; exact ⟨rfl, V3.pa.len⟩⟩
        · by_cases y2 : y = 38
          · subst y2
            have HP : Kept (Ppa.peek (38 :: u) = 38) := ⟨(peek_is 38 (by decide) _).2 rfl⟩
            have hv := V.val
            rw [Ppa.valF, if_neg y0, if_neg y1, if_pos rfl] at hv
            have htx := Ppa.texts_low (by decide) V.tx
            cases hm : Ppa.refM u with
            | error t' =>
              rw [hm] at hv
              have HX : Kept (o = .error t') := ⟨by injection hv with hv; exact hv.symm⟩
              have HM := Kept.mk hm
              clear hm hv htx
              go_wp2_with (first | (go_at_call 77; refine (peek_r V.pa).mono ?_; rintro e w3 ⟨rfl, hb3⟩; rw [HP.out]; have V3 := V.below hb3; clear hb3; obtain ⟨k, hk, c1⟩ := V3.pa.cell; have f1 := V3.pa.row.unf 1; have k0 : (0 : Int) ≤ (k : Int) := (by omega); have k1 : (k : Int) ≤ 65536 := (by have := V3.pa.small; omega); have HP4 : Pa B b s x u (w3.setCell ⟨b, 1, none⟩ (.int .i64 ((k : Int) + 1))) := V3.pa.put ((List.suffix_cons _ _).trans V3.pa.suf) (by simp at hk; omega); have HG4 := grown_set (World.grownBy.refl w3 (some b)) 1 (.int .i64 ((k : Int) + 1)); have HI4 := Is_grown V3.bld HG4 hbW (Nat.le_refl _); have G4 := Kept.mk (V3.grown.trans HG4); clear HG4) | (go_at_call 96; refine (ways_no (reference_r HP4) HM.out).mono ?_; rintro e w5 ⟨rfl, hl5, hg5⟩; have G5 := Kept.mk (G4.out.trans hg5); clear hg5))
              exact ⟨rfl, G5.out, by rw [HX.out]; exact ⟨rfl, hl5⟩⟩
            | ok p =>
              obtain ⟨n, t'⟩ := p
              rw [hm] at hv
              have hok := refM_ok hm
              have hen := (Lib.runeCells_le (n : Int)).2
              rw [Lib.runeCells_length] at hen
              have hroom := V.room
              have HV := Kept.mk hv
              have HTX := Kept.mk (refM_texts htx hm)
              have HM := Kept.mk hm
              clear hm hv htx
              go_wp2_with (first | (go_at_call 77; refine (peek_r V.pa).mono ?_; rintro e w3 ⟨rfl, hb3⟩; rw [HP.out]; have V3 := V.below hb3; clear hb3; obtain ⟨k, hk, c1⟩ := V3.pa.cell; have f1 := V3.pa.row.unf 1; have k0 : (0 : Int) ≤ (k : Int) := (by omega); have k1 : (k : Int) ≤ 65536 := (by have := V3.pa.small; omega); have HP4 : Pa B b s x u (w3.setCell ⟨b, 1, none⟩ (.int .i64 ((k : Int) + 1))) := V3.pa.put ((List.suffix_cons _ _).trans V3.pa.suf) (by simp at hk; omega); have HG4 := grown_set (World.grownBy.refl w3 (some b)) 1 (.int .i64 ((k : Int) + 1)); have HI4 := Is_grown V3.bld HG4 hbW (Nat.le_refl _); have G4 := Kept.mk (V3.grown.trans HG4); clear HG4) | (go_at_call 96; refine (ways_ok (reference_r HP4) HM.out).mono ?_; rintro e w5 ⟨rfl, hP5, hg5⟩; have HI5 := Is_grown HI4 hg5 hbW (Nat.le_refl _); have G5 := Kept.mk (G4.out.trans hg5); clear hg5) | (go_at_call 95; refine (rune_any (n : Int) (by omega) (by omega) bld_ne (Nat.le_refl _) HI5 lies_bld (by omega)).mono ?_; rintro e w6 ⟨⟨m6, rfl⟩, hI6, hb6, _⟩; have H6 := hP5.low hb6 hbW hBW; have G6 := Kept.mk (grown_low G5.out (hb6.mono hz1)); clear hb6))
              go_roundg g
              case measure => omega
              case rel => exact ⟨acc ++ Lib.encodeRune (n : Int), t', H6, hI6, G6.out, HV.out, by have := V3.fuel; simp at this; omega, HTX.out, by simp at hroom ⊢; omega⟩
          · have p0 : ¬ Ppa.peek (y :: u) = 34 := fun e => y0 (by have h1 := (peek_is 34 (by decide) (y :: u)).1 e; injection h1)
            have p1 : ¬ Ppa.peek (y :: u) = 60 := fun e => y1 (by have h1 := (peek_is 60 (by decide) (y :: u)).1 e; injection h1)
            have p2 : ¬ Ppa.peek (y :: u) = 38 := fun e => y2 (by have h1 := (peek_is 38 (by decide) (y :: u)).1 e; injection h1)
            have p3 : ¬ Ppa.peek (y :: u) = -1 := fun e => by have h1 := (peek_lo (y :: u)).1; unfold Ppa.peek at e; rw [if_neg (by simp)] at e; omega
            have hroom := V.room
            have hfu := V.fuel
            simp only [List.length_cons] at hroom hfu
            cases hbl : blankH (y :: u) with
            | true =>
              have hbc : Pch.blankC y = true := hbl
              have hlow := blankC_low hbc
              have hHP := peek_low y u hlow
              have htu := Ppa.texts_low hlow V.tx
              by_cases y3 : y = 13
              · subst y3
                have hv := V.val
                rw [Ppa.valF, if_neg y0, if_neg y1, if_neg y2, if_pos rfl] at hv
                have HP : Kept (Ppa.peek (13 :: u) = 13) := ⟨(peek_is 13 (by decide) _).2 rfl⟩
                have HB := Kept.mk hbl
                have HVL := Kept.mk hv
                have hnl : (if Ppa.peek u = 10 then Ppa.skip u else u) = Ppa.nlL u := by
                  have pk : Ppa.peek u = 10 ↔ u.head? = some 10 := peek_is 10 (by decide) u
                  by_cases e : u.head? = some 10
                  · rw [if_pos (pk.2 e)]
                    obtain ⟨v, rfl⟩ := head_cons e
                    exact skip_low 10 v (by decide)
                  · rw [if_neg (fun e2 => e (pk.1 e2))]
                    cases u with
                    | nil => rfl
                    | cons z v =>
                      unfold Ppa.nlL
                      split
                      · rename_i h2
                        injection h2 with h2 _
                        exact absurd (by rw [h2]; rfl) e
                      · rfl
                have htn : Pch.textsL (Ppa.nlL u) = true := by
                  unfold Ppa.nlL
                  split
                  · exact Ppa.texts_low (by decide) htu
                  · exact htu
                have hnlen := nlL_len u
                have HNL := Kept.mk hnl
                have HTX := Kept.mk htn
                clear hbl hbc hv hHP htu hnl htn y0 y1 y2 p0 p1 p2 p3
                go_wp2_with (first | (go_at_call 77; refine (peek_r V.pa).mono ?_; rintro e w3 ⟨rfl, hb3⟩; rw [HP.out]; have V3 := V.below hb3; clear hb3) | (go_at_call 76; refine (blank_r V3.pa).mono ?_; rintro e w7 ⟨rfl, hb7⟩; rw [HB.out]; have V7 := V3.below hb7; clear hb7; obtain ⟨k, hk, c1⟩ := V7.pa.cell; have f1 := V7.pa.row.unf 1; have k0 : (0 : Int) ≤ (k : Int) := (by omega); have k1 : (k : Int) ≤ 65536 := (by have := V7.pa.small; omega); have HP4 : Pa B b s x u (w7.setCell ⟨b, 1, none⟩ (.int .i64 ((k : Int) + 1))) := V7.pa.put ((List.suffix_cons _ _).trans V7.pa.suf) (by simp at hk; omega); have HG4 := grown_set (World.grownBy.refl w7 (some b)) 1 (.int .i64 ((k : Int) + 1)); have HI4 := Is_grown V7.bld HG4 hbW (Nat.le_refl _); have G4 := Kept.mk (V7.grown.trans HG4); clear HG4) | (go_at_call 41; refine (may_r 10 (by omega) HP4).mono ?_; rintro e w8 ⟨rfl, hP8, hg8⟩; rw [HNL.out] at hP8; have HI8 := Is_grown HI4 hg8 hbW (Nat.le_refl _); have G8 := Kept.mk (G4.out.trans hg8); clear hg8) | (go_at_call 97; refine (byte_any 32 bld_ne (Nat.le_refl _) HI8 lies_bld (by omega)).mono ?_; rintro e w9 ⟨rfl, hI9, hb9, _⟩; have H9 := hP8.low hb9 hbW hBW; have G9 := Kept.mk (grown_low G8.out (hb9.mono hz1)); clear hb9))
                go_roundg g
                case measure => omega
                case rel => exact ⟨acc ++ [32], Ppa.nlL u, H9, hI9, G9.out, HVL.out, by omega, HTX.out, by simp; omega⟩
              · have hv := V.val
                rw [Ppa.valF, if_neg y0, if_neg y1, if_neg y2, if_neg y3, if_pos hbc] at hv
                have p4 : ¬ Ppa.peek (y :: u) = 13 := fun e => y3 (by have h1 := (peek_is 13 (by decide) (y :: u)).1 e; injection h1)
                generalize hPP : Ppa.peek (y :: u) = P at p0 p1 p2 p3 p4
                have q1 : (P == 60) = false := by simpa using p1
                have q3 : (P == -1) = false := by simpa using p3
                have HP := Kept.mk hPP
                have HB := Kept.mk hbl
                have HVL := Kept.mk hv
                have HTX := Kept.mk htu
                clear hbl hbc hv hHP htu hPP y0 y1 y2 y3
                go_wp2_with (first | (go_at_call 77; refine (peek_r V.pa).mono ?_; rintro e w3 ⟨rfl, hb3⟩; rw [HP.out]; have V3 := V.below hb3; clear hb3) | (go_at_call 76; refine (blank_r V3.pa).mono ?_; rintro e w7 ⟨rfl, hb7⟩; rw [HB.out]; have V7 := V3.below hb7; clear hb7; obtain ⟨k, hk, c1⟩ := V7.pa.cell; have f1 := V7.pa.row.unf 1; have k0 : (0 : Int) ≤ (k : Int) := (by omega); have k1 : (k : Int) ≤ 65536 := (by have := V7.pa.small; omega); have HP4 : Pa B b s x u (w7.setCell ⟨b, 1, none⟩ (.int .i64 ((k : Int) + 1))) := V7.pa.put ((List.suffix_cons _ _).trans V7.pa.suf) (by simp at hk; omega); have HG4 := grown_set (World.grownBy.refl w7 (some b)) 1 (.int .i64 ((k : Int) + 1)); have HI4 := Is_grown V7.bld HG4 hbW (Nat.le_refl _); have G4 := Kept.mk (V7.grown.trans HG4); clear HG4) | (go_at_call 97; refine (byte_any 32 bld_ne (Nat.le_refl _) HI4 lies_bld (by omega)).mono ?_; rintro e w9 ⟨rfl, hI9, hb9, _⟩; have H9 := HP4.low hb9 hbW hBW; have G9 := Kept.mk (grown_low G4.out (hb9.mono hz1)); clear hb9))
                go_roundg g
                case measure => omega
                case rel => exact ⟨acc ++ [32], u, H9, hI9, G9.out, HVL.out, by omega, HTX.out, by simp; omega⟩
            | false =>
              have hnb : ¬ Pch.blankC y = true := by intro e; rw [show blankH (y :: u) = Pch.blankC y from rfl, e] at hbl; cases hbl
              have hne : (y :: u) ≠ [] := by simp
              have hd1 := Lib.decodeL_width (y :: u)
              have hd2 := Lib.decodeL_le (y :: u) hne
              have hcb := Ppa.char_bytes hne V.tx
              have htx := (Ppa.texts_step hne V.tx).2.2
              have hpe : Ppa.peek (y :: u) = ((Lib.decodeL (y :: u)).1 : Int) := by unfold Ppa.peek; rw [if_neg hne]
              have hval : Ppa.valF 34 (g + 1 - (Lib.decodeL (y :: u)).2) (acc ++ Lib.encodeRune (Ppa.peek (y :: u))) (Ppa.skip (y :: u)) = some o := by
                have hv := V.val
                rw [hpe, hcb]
                unfold Ppa.skip
                rcases Nat.lt_or_ge y.toNat 128 with hy | hy
                · rw [Ppa.valF, if_neg y0, if_neg y1, if_neg y2, if_neg (fun e => hnb (by rw [e]; decide)), if_neg hnb] at hv
                  rw [Lib.decodeL_ascii y u hy]
                  exact hv
                · have h1 := Ppa.valF_copy 34 (by decide) ((y :: u).take (Lib.decodeL (y :: u)).2) (g + 1 - (Lib.decodeL (y :: u)).2) acc ((y :: u).drop (Lib.decodeL (y :: u)).2) (Ppa.char_high hy V.tx)
                  rw [List.take_append_drop, List.length_take, Nat.min_eq_left hd2, show g + 1 - (Lib.decodeL (y :: u)).2 + (Lib.decodeL (y :: u)).2 = g + 1 by simp only [List.length_cons] at hd2; omega, hv] at h1
                  exact h1.symm
              have hen := (Lib.runeCells_le (Ppa.peek (y :: u))).2
              rw [Lib.runeCells_length] at hen
              have hsl : (Ppa.skip (y :: u)).length = (y :: u).length - (Lib.decodeL (y :: u)).2 := by unfold Ppa.skip; exact List.length_drop
              simp only [List.length_cons] at hsl hd2
              have hlo := (peek_lo (y :: u)).1
              have hhi := (peek_lo (y :: u)).2
              generalize (Lib.decodeL (y :: u)).2 = K at hd1 hd2 hval hsl
              generalize hS : Ppa.skip (y :: u) = S at hval hsl htx
              have HS := Kept.mk hS
              generalize hPP : Ppa.peek (y :: u) = P at p0 p1 p2 p3 hval hen hlo hhi
              have q1 : (P == 60) = false := by simpa using p1
              have q3 : (P == -1) = false := by simpa using p3
              have HP := Kept.mk hPP
              have HB := Kept.mk hbl
              have HVL := Kept.mk hval
              have HTX := Kept.mk htx
              clear hbl hnb hcb hpe hS hPP hval htx y0 y1 y2
              go_wp2_with (first | (go_at_call 77; refine (peek_r V.pa).mono ?_; rintro e w3 ⟨rfl, hb3⟩; rw [HP.out]; have V3 := V.below hb3; clear hb3) | (go_at_call 76; refine (blank_r V3.pa).mono ?_; rintro e w7 ⟨rfl, hb7⟩; rw [HB.out]; have V7 := V3.below hb7; clear hb7) | (go_at_call 78; refine (next_r V7.pa (by simp)).mono ?_; rintro e w8 ⟨rfl, hP8, hg8⟩; rw [HP.out]; rw [HS.out] at hP8; have HI8 := Is_grown V7.bld hg8 hbW (Nat.le_refl _); have G8 := Kept.mk (V7.grown.trans hg8); clear hg8) | (go_at_call 95; refine (rune_any P (by omega) (by omega) bld_ne (Nat.le_refl _) HI8 lies_bld (by omega)).mono ?_; rintro e w9 ⟨⟨m9, rfl⟩, hI9, hb9, _⟩; have H9 := hP8.low hb9 hbW hBW; have G9 := Kept.mk (grown_low G8.out (hb9.mono hz1)); clear hb9))
              go_roundg (g + 1 - K)
              case measure => omega
              case rel => exact ⟨acc ++ Lib.encodeRune P, S, H9, hI9, G9.out, HVL.out, by omega, HTX.out, by simp; omega⟩
set_option maxRecDepth 100000 in
set_option maxHeartbeats 2000000 in
theorem value_apos {B b : Nat} {s : ByteArray} {x : List Value} {t : Ppa.Bs} {w : World} (h : Pa B b s x (39 :: t) w) (ht : Pch.textsL t = true) :
    Calls Tryz.prog 120 #[.pointer (some ⟨b, 0, none⟩)] w fun e w' => WaysV B b s x w strV (Ppa.valM (39 :: t)) e w' := by
  obtain ⟨o, ho⟩ := valF_some 39 (t.length + 1) [] t (by omega)
  have hM : Ppa.valM (39 :: t) = o := by
    unfold Ppa.valM
    simp [ho]
  rw [hM]
  have HO := Kept.mk ho
  have HT := Kept.mk ht
  have HQ : Kept (Ppa.peek (39 :: t) = 39) := ⟨(peek_is 39 (by decide) _).2 rfl⟩
  have hblt := h.row.lt
  have hBw : B ≤ w.heap.size := h.ev.le
  clear hM ho ht
  go_enter Tryz.func120, Tryz.ntmps120
  go_wp2_with (go_at_call 77; refine (peek_r h).mono ?_; rintro e w1 ⟨rfl, hb1⟩; rw [HQ.out]; have hz1 := hb1.size; have H1 := h.below hb1; have G1 := Kept.mk (grown_of_below hb1 (some b)); clear hb1; have hs9 := H1.small; obtain ⟨k, hk, c1⟩ := H1.cell; have f1 := H1.row.unf 1; have k0 : (0 : Int) ≤ (k : Int) := (by omega); have k1 : (k : Int) ≤ 65536 := (by omega); have HP3 : Pa B b s x t (w1.setCell ⟨b, 1, none⟩ (.int .i64 ((k : Int) + 1))) := H1.put ((List.suffix_cons _ _).trans H1.suf) (by simp at hk; omega); have G3 := Kept.mk (grown_set G1.out 1 (.int .i64 ((k : Int) + 1))))
  go_loopg [5] (t.length + 1) (fun g _ wx => ∃ acc r' : Ppa.Bs, Vs B b w1.heap.size s x w 39 o (4 * t.length) g acc r' wx)
  case atStart =>
    have hI := bld_fresh (w1.setCell ⟨b, 1, none⟩ (.int .i64 ((k : Int) + 1)))
    have hz : (w1.setCell ⟨b, 1, none⟩ (.int .i64 ((k : Int) + 1))).heap.size = w1.heap.size := by simp
    rw [hz] at hI
    have hbb : ∀ o', Below w1.heap.size (w1.setCell ⟨b, 1, none⟩ (.int .i64 ((k : Int) + 1))) ((w1.setCell ⟨b, 1, none⟩ (.int .i64 ((k : Int) + 1))).alloc o') := fun o' => (Below.refl _ _).alloc (by rw [hz]; exact Nat.le_refl _) o'
    exact ⟨[], t, HP3.low (hbb _) (by omega) (by omega), hI, grown_low G3.out ((hbb _).mono hz1), HO.out, by omega, HT.out, by simp⟩
  case round =>
    obtain ⟨acc, r', V⟩ := hrel
    have hbW : b < w1.heap.size := by omega
    have hBW : B ≤ w1.heap.size := by omega
    have htl : t.length ≤ 65536 := by have h1 := h.len; have h2 := h.small; simp at h1; omega
    clear HP3 H1 G1 G3 c1 f1 hk k0 k1 HQ h
    obtain ⟨g, rfl⟩ : ∃ g, gk = g + 1 := ⟨gk - 1, by have := V.fuel; omega⟩
    cases r' with
    | nil =>
      have HX : Kept (o = .error []) := ⟨by have h1 := V.val; rw [Ppa.valF] at h1; injection h1 with h1; exact h1.symm⟩
      have HP : Kept (Ppa.peek [] = -1) := ⟨rfl⟩
      go_wp2_with (first | (go_at_call 77; refine (peek_r V.pa).mono ?_; rintro e w3 ⟨rfl, hb3⟩; rw [HP.out]; have V3 := V.below hb3; clear hb3) | (go_at_call 44; refine (no_r V3.pa).mono ?_; rintro e w4 ⟨rfl, rfl⟩))
      exact ⟨rfl, V3.grown, by rw [HX.out]; exact ⟨rfl, by simp⟩⟩
    | cons y u =>
      by_cases y0 : y = 39
      · subst y0
        have HX : Kept (o = .ok (acc, u)) := ⟨by have h1 := V.val; rw [Ppa.valF, if_pos rfl] at h1; injection h1 with h1; exact h1.symm⟩
        have HP : Kept (Ppa.peek (39 :: u) = 39) := ⟨(peek_is 39 (by decide) _).2 rfl⟩
        go_wp2_with (first | (go_at_call 77; refine (peek_r V.pa).mono ?_; rintro e w3 ⟨rfl, hb3⟩; rw [HP.out]; have V3 := V.below hb3; clear hb3; obtain ⟨k, hk, c1⟩ := V3.pa.cell; have f1 := V3.pa.row.unf 1; have k0 : (0 : Int) ≤ (k : Int) := (by omega); have k1 : (k : Int) ≤ 65536 := (by have := V3.pa.small; omega); have HP4 : Pa B b s x u (w3.setCell ⟨b, 1, none⟩ (.int .i64 ((k : Int) + 1))) := V3.pa.put ((List.suffix_cons _ _).trans V3.pa.suf) (by simp at hk; omega); have HG4 := grown_set (World.grownBy.refl w3 (some b)) 1 (.int .i64 ((k : Int) + 1)); have HI4 := Is_grown V3.bld HG4 hbW (Nat.le_refl _); have G4 := Kept.mk (V3.grown.trans HG4); clear HG4) | (go_at_call 31; refine (string_any (Nat.le_refl _) HI4).mono ?_; rintro e w5 ⟨rfl, _, hb5, _⟩; have H5 := HP4.low hb5 hbW hBW; have G5 := Kept.mk (grown_low G4.out (hb5.mono hz1)); clear hb5))
        go_ret
        exact ⟨G5.out, by rw [HX.out]; exact ⟨rfl, H5⟩⟩
      · by_cases y1 : y = 60
        · subst y1
          have HX : Kept (o = .error (60 :: u)) := ⟨by have h1 := V.val; rw [Ppa.valF, if_neg y0, if_pos rfl] at h1; injection h1 with h1; exact h1.symm⟩
          have HP : Kept (Ppa.peek (60 :: u) = 60) := ⟨(peek_is 60 (by decide) _).2 rfl⟩
          go_wp2_with (first | (go_at_call 77; refine (peek_r V.pa).mono ?_; rintro e w3 ⟨rfl, hb3⟩; rw [HP.out]; have V3 := V.below hb3; clear hb3) | (go_at_call 44; refine (no_r V3.pa).mono ?_; rintro e w4 ⟨rfl, rfl⟩))
          exact ⟨rfl, V3.grown, by rw [HX.out]; exact ⟨rfl, V3.pa.len⟩⟩
        · by_cases y2 : y = 38
          · subst y2
            have HP : Kept (Ppa.peek (38 :: u) = 38) := ⟨(peek_is 38 (by decide) _).2 rfl⟩
            have hv := V.val
            rw [Ppa.valF, if_neg y0, if_neg y1, if_pos rfl] at hv
            have htx := Ppa.texts_low (by decide) V.tx
            cases hm : Ppa.refM u with
            | error t' =>
              rw [hm] at hv
              have HX : Kept (o = .error t') := ⟨by injection hv with hv; exact hv.symm⟩
              have HM := Kept.mk hm
              clear hm hv htx
              go_wp2_with (first | (go_at_call 77; refine (peek_r V.pa).mono ?_; rintro e w3 ⟨rfl, hb3⟩; rw [HP.out]; have V3 := V.below hb3; clear hb3; obtain ⟨k, hk, c1⟩ := V3.pa.cell; have f1 := V3.pa.row.unf 1; have k0 : (0 : Int) ≤ (k : Int) := (by omega); have k1 : (k : Int) ≤ 65536 := (by have := V3.pa.small; omega); have HP4 : Pa B b s x u (w3.setCell ⟨b, 1, none⟩ (.int .i64 ((k : Int) + 1))) := V3.pa.put ((List.suffix_cons _ _).trans V3.pa.suf) (by simp at hk; omega); have HG4 := grown_set (World.grownBy.refl w3 (some b)) 1 (.int .i64 ((k : Int) + 1)); have HI4 := Is_grown V3.bld HG4 hbW (Nat.le_refl _); have G4 := Kept.mk (V3.grown.trans HG4); clear HG4) | (go_at_call 96; refine (ways_no (reference_r HP4) HM.out).mono ?_; rintro e w5 ⟨rfl, hl5, hg5⟩; have G5 := Kept.mk (G4.out.trans hg5); clear hg5))
              exact ⟨rfl, G5.out, by rw [HX.out]; exact ⟨rfl, hl5⟩⟩
            | ok p =>
              obtain ⟨n, t'⟩ := p
              rw [hm] at hv
              have hok := refM_ok hm
              have hen := (Lib.runeCells_le (n : Int)).2
              rw [Lib.runeCells_length] at hen
              have hroom := V.room
              have HV := Kept.mk hv
              have HTX := Kept.mk (refM_texts htx hm)
              have HM := Kept.mk hm
              clear hm hv htx
              go_wp2_with (first | (go_at_call 77; refine (peek_r V.pa).mono ?_; rintro e w3 ⟨rfl, hb3⟩; rw [HP.out]; have V3 := V.below hb3; clear hb3; obtain ⟨k, hk, c1⟩ := V3.pa.cell; have f1 := V3.pa.row.unf 1; have k0 : (0 : Int) ≤ (k : Int) := (by omega); have k1 : (k : Int) ≤ 65536 := (by have := V3.pa.small; omega); have HP4 : Pa B b s x u (w3.setCell ⟨b, 1, none⟩ (.int .i64 ((k : Int) + 1))) := V3.pa.put ((List.suffix_cons _ _).trans V3.pa.suf) (by simp at hk; omega); have HG4 := grown_set (World.grownBy.refl w3 (some b)) 1 (.int .i64 ((k : Int) + 1)); have HI4 := Is_grown V3.bld HG4 hbW (Nat.le_refl _); have G4 := Kept.mk (V3.grown.trans HG4); clear HG4) | (go_at_call 96; refine (ways_ok (reference_r HP4) HM.out).mono ?_; rintro e w5 ⟨rfl, hP5, hg5⟩; have HI5 := Is_grown HI4 hg5 hbW (Nat.le_refl _); have G5 := Kept.mk (G4.out.trans hg5); clear hg5) | (go_at_call 95; refine (rune_any (n : Int) (by omega) (by omega) bld_ne (Nat.le_refl _) HI5 lies_bld (by omega)).mono ?_; rintro e w6 ⟨⟨m6, rfl⟩, hI6, hb6, _⟩; have H6 := hP5.low hb6 hbW hBW; have G6 := Kept.mk (grown_low G5.out (hb6.mono hz1)); clear hb6))
              go_roundg g
              case measure => omega
              case rel => exact ⟨acc ++ Lib.encodeRune (n : Int), t', H6, hI6, G6.out, HV.out, by have := V3.fuel; simp at this; omega, HTX.out, by simp at hroom ⊢; omega⟩
          · have p0 : ¬ Ppa.peek (y :: u) = 39 := fun e => y0 (by have h1 := (peek_is 39 (by decide) (y :: u)).1 e; injection h1)
            have p1 : ¬ Ppa.peek (y :: u) = 60 := fun e => y1 (by have h1 := (peek_is 60 (by decide) (y :: u)).1 e; injection h1)
            have p2 : ¬ Ppa.peek (y :: u) = 38 := fun e => y2 (by have h1 := (peek_is 38 (by decide) (y :: u)).1 e; injection h1)
            have p3 : ¬ Ppa.peek (y :: u) = -1 := fun e => by have h1 := (peek_lo (y :: u)).1; unfold Ppa.peek at e; rw [if_neg (by simp)] at e; omega
            have hroom := V.room
            have hfu := V.fuel
            simp only [List.length_cons] at hroom hfu
            cases hbl : blankH (y :: u) with
            | true =>
              have hbc : Pch.blankC y = true := hbl
              have hlow := blankC_low hbc
              have hHP := peek_low y u hlow
              have htu := Ppa.texts_low hlow V.tx
              by_cases y3 : y = 13
              · subst y3
                have hv := V.val
                rw [Ppa.valF, if_neg y0, if_neg y1, if_neg y2, if_pos rfl] at hv
                have HP : Kept (Ppa.peek (13 :: u) = 13) := ⟨(peek_is 13 (by decide) _).2 rfl⟩
                have HB := Kept.mk hbl
                have HVL := Kept.mk hv
                have hnl : (if Ppa.peek u = 10 then Ppa.skip u else u) = Ppa.nlL u := by
                  have pk : Ppa.peek u = 10 ↔ u.head? = some 10 := peek_is 10 (by decide) u
                  by_cases e : u.head? = some 10
                  · rw [if_pos (pk.2 e)]
                    obtain ⟨v, rfl⟩ := head_cons e
                    exact skip_low 10 v (by decide)
                  · rw [if_neg (fun e2 => e (pk.1 e2))]
                    cases u with
                    | nil => rfl
                    | cons z v =>
                      unfold Ppa.nlL
                      split
                      · rename_i h2
                        injection h2 with h2 _
                        exact absurd (by rw [h2]; rfl) e
                      · rfl
                have htn : Pch.textsL (Ppa.nlL u) = true := by
                  unfold Ppa.nlL
                  split
                  · exact Ppa.texts_low (by decide) htu
                  · exact htu
                have hnlen := nlL_len u
                have HNL := Kept.mk hnl
                have HTX := Kept.mk htn
                clear hbl hbc hv hHP htu hnl htn y0 y1 y2 p0 p1 p2 p3
                go_wp2_with (first | (go_at_call 77; refine (peek_r V.pa).mono ?_; rintro e w3 ⟨rfl, hb3⟩; rw [HP.out]; have V3 := V.below hb3; clear hb3) | (go_at_call 76; refine (blank_r V3.pa).mono ?_; rintro e w7 ⟨rfl, hb7⟩; rw [HB.out]; have V7 := V3.below hb7; clear hb7; obtain ⟨k, hk, c1⟩ := V7.pa.cell; have f1 := V7.pa.row.unf 1; have k0 : (0 : Int) ≤ (k : Int) := (by omega); have k1 : (k : Int) ≤ 65536 := (by have := V7.pa.small; omega); have HP4 : Pa B b s x u (w7.setCell ⟨b, 1, none⟩ (.int .i64 ((k : Int) + 1))) := V7.pa.put ((List.suffix_cons _ _).trans V7.pa.suf) (by simp at hk; omega); have HG4 := grown_set (World.grownBy.refl w7 (some b)) 1 (.int .i64 ((k : Int) + 1)); have HI4 := Is_grown V7.bld HG4 hbW (Nat.le_refl _); have G4 := Kept.mk (V7.grown.trans HG4); clear HG4) | (go_at_call 41; refine (may_r 10 (by omega) HP4).mono ?_; rintro e w8 ⟨rfl, hP8, hg8⟩; rw [HNL.out] at hP8; have HI8 := Is_grown HI4 hg8 hbW (Nat.le_refl _); have G8 := Kept.mk (G4.out.trans hg8); clear hg8) | (go_at_call 97; refine (byte_any 32 bld_ne (Nat.le_refl _) HI8 lies_bld (by omega)).mono ?_; rintro e w9 ⟨rfl, hI9, hb9, _⟩; have H9 := hP8.low hb9 hbW hBW; have G9 := Kept.mk (grown_low G8.out (hb9.mono hz1)); clear hb9))
                go_roundg g
                case measure => omega
                case rel => exact ⟨acc ++ [32], Ppa.nlL u, H9, hI9, G9.out, HVL.out, by omega, HTX.out, by simp; omega⟩
              · have hv := V.val
                rw [Ppa.valF, if_neg y0, if_neg y1, if_neg y2, if_neg y3, if_pos hbc] at hv
                have p4 : ¬ Ppa.peek (y :: u) = 13 := fun e => y3 (by have h1 := (peek_is 13 (by decide) (y :: u)).1 e; injection h1)
                generalize hPP : Ppa.peek (y :: u) = P at p0 p1 p2 p3 p4
                have q1 : (P == 60) = false := by simpa using p1
                have q3 : (P == -1) = false := by simpa using p3
                have HP := Kept.mk hPP
                have HB := Kept.mk hbl
                have HVL := Kept.mk hv
                have HTX := Kept.mk htu
                clear hbl hbc hv hHP htu hPP y0 y1 y2 y3
                go_wp2_with (first | (go_at_call 77; refine (peek_r V.pa).mono ?_; rintro e w3 ⟨rfl, hb3⟩; rw [HP.out]; have V3 := V.below hb3; clear hb3) | (go_at_call 76; refine (blank_r V3.pa).mono ?_; rintro e w7 ⟨rfl, hb7⟩; rw [HB.out]; have V7 := V3.below hb7; clear hb7; obtain ⟨k, hk, c1⟩ := V7.pa.cell; have f1 := V7.pa.row.unf 1; have k0 : (0 : Int) ≤ (k : Int) := (by omega); have k1 : (k : Int) ≤ 65536 := (by have := V7.pa.small; omega); have HP4 : Pa B b s x u (w7.setCell ⟨b, 1, none⟩ (.int .i64 ((k : Int) + 1))) := V7.pa.put ((List.suffix_cons _ _).trans V7.pa.suf) (by simp at hk; omega); have HG4 := grown_set (World.grownBy.refl w7 (some b)) 1 (.int .i64 ((k : Int) + 1)); have HI4 := Is_grown V7.bld HG4 hbW (Nat.le_refl _); have G4 := Kept.mk (V7.grown.trans HG4); clear HG4) | (go_at_call 97; refine (byte_any 32 bld_ne (Nat.le_refl _) HI4 lies_bld (by omega)).mono ?_; rintro e w9 ⟨rfl, hI9, hb9, _⟩; have H9 := HP4.low hb9 hbW hBW; have G9 := Kept.mk (grown_low G4.out (hb9.mono hz1)); clear hb9))
                go_roundg g
                case measure => omega
                case rel => exact ⟨acc ++ [32], u, H9, hI9, G9.out, HVL.out, by omega, HTX.out, by simp; omega⟩
            | false =>
              have hnb : ¬ Pch.blankC y = true := by intro e; rw [show blankH (y :: u) = Pch.blankC y from rfl, e] at hbl; cases hbl
              have hne : (y :: u) ≠ [] := by simp
              have hd1 := Lib.decodeL_width (y :: u)
              have hd2 := Lib.decodeL_le (y :: u) hne
              have hcb := Ppa.char_bytes hne V.tx
              have htx := (Ppa.texts_step hne V.tx).2.2
              have hpe : Ppa.peek (y :: u) = ((Lib.decodeL (y :: u)).1 : Int) := by unfold Ppa.peek; rw [if_neg hne]
              have hval : Ppa.valF 39 (g + 1 - (Lib.decodeL (y :: u)).2) (acc ++ Lib.encodeRune (Ppa.peek (y :: u))) (Ppa.skip (y :: u)) = some o := by
                have hv := V.val
                rw [hpe, hcb]
                unfold Ppa.skip
                rcases Nat.lt_or_ge y.toNat 128 with hy | hy
                · rw [Ppa.valF, if_neg y0, if_neg y1, if_neg y2, if_neg (fun e => hnb (by rw [e]; decide)), if_neg hnb] at hv
                  rw [Lib.decodeL_ascii y u hy]
                  exact hv
                · have h1 := Ppa.valF_copy 39 (by decide) ((y :: u).take (Lib.decodeL (y :: u)).2) (g + 1 - (Lib.decodeL (y :: u)).2) acc ((y :: u).drop (Lib.decodeL (y :: u)).2) (Ppa.char_high hy V.tx)
                  rw [List.take_append_drop, List.length_take, Nat.min_eq_left hd2, show g + 1 - (Lib.decodeL (y :: u)).2 + (Lib.decodeL (y :: u)).2 = g + 1 by simp only [List.length_cons] at hd2; omega, hv] at h1
                  exact h1.symm
              have hen := (Lib.runeCells_le (Ppa.peek (y :: u))).2
              rw [Lib.runeCells_length] at hen
              have hsl : (Ppa.skip (y :: u)).length = (y :: u).length - (Lib.decodeL (y :: u)).2 := by unfold Ppa.skip; exact List.length_drop
              simp only [List.length_cons] at hsl hd2
              have hlo := (peek_lo (y :: u)).1
              have hhi := (peek_lo (y :: u)).2
              generalize (Lib.decodeL (y :: u)).2 = K at hd1 hd2 hval hsl
              generalize hS : Ppa.skip (y :: u) = S at hval hsl htx
              have HS := Kept.mk hS
              generalize hPP : Ppa.peek (y :: u) = P at p0 p1 p2 p3 hval hen hlo hhi
              have q1 : (P == 60) = false := by simpa using p1
              have q3 : (P == -1) = false := by simpa using p3
              have HP := Kept.mk hPP
              have HB := Kept.mk hbl
              have HVL := Kept.mk hval
              have HTX := Kept.mk htx
              clear hbl hnb hcb hpe hS hPP hval htx y0 y1 y2
              go_wp2_with (first | (go_at_call 77; refine (peek_r V.pa).mono ?_; rintro e w3 ⟨rfl, hb3⟩; rw [HP.out]; have V3 := V.below hb3; clear hb3) | (go_at_call 76; refine (blank_r V3.pa).mono ?_; rintro e w7 ⟨rfl, hb7⟩; rw [HB.out]; have V7 := V3.below hb7; clear hb7) | (go_at_call 78; refine (next_r V7.pa (by simp)).mono ?_; rintro e w8 ⟨rfl, hP8, hg8⟩; rw [HP.out]; rw [HS.out] at hP8; have HI8 := Is_grown V7.bld hg8 hbW (Nat.le_refl _); have G8 := Kept.mk (V7.grown.trans hg8); clear hg8) | (go_at_call 95; refine (rune_any P (by omega) (by omega) bld_ne (Nat.le_refl _) HI8 lies_bld (by omega)).mono ?_; rintro e w9 ⟨⟨m9, rfl⟩, hI9, hb9, _⟩; have H9 := hP8.low hb9 hbW hBW; have G9 := Kept.mk (grown_low G8.out (hb9.mono hz1)); clear hb9))
              go_roundg (g + 1 - K)
              case measure => omega
              case rel => exact ⟨acc ++ Lib.encodeRune P, S, H9, hI9, G9.out, HVL.out, by omega, HTX.out, by simp; omega⟩
end Go.Proofs.YtlemdhfekdiaeaaGreatDoor.Wps
