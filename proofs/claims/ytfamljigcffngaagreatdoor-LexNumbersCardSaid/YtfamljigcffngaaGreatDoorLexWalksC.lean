/- The walk over the program's quoted (chapter 22). -/
import Derived.Test.YtfamljigcffngaaGreatDoorLexWalksB
import Derived.Test.YtfamljigcffngaaGreatDoorBuildShelf
import Derived.BigQuiet
import Derived.Deep.QuietTactic
namespace Go.Proofs.YtfamljigcffngaaGreatDoor.Wlx
open Go Go.RowKit Go.Proofs.YtfamljigcffngaaGreatDoor.Wch

/-- the builder in block b holds these bytes; nothing below block b has turned -/
def Bld (b : Nat) (acc : List UInt8) (w : World) : Prop := Lib.IsBuilderF 74 5 b b (Lib.byteCells acc) w ∧ b < w.heap.size
theorem bld_fresh (w : World) : Bld w.heap.size [] (w.alloc (.cells #[.pointer none, .slice none 0 0] 74)) := ⟨Lib.IsBuilderF.of (Lib.fresh_isBuilder _ _ w), by simp⟩
theorem write_byte (b : Nat) (acc : List UInt8) (c : UInt8) (w : World) (h : Bld b acc w) (hl : acc.length ≤ 1000000) :
    Calls Tryz.prog 77 #[.pointer (some ⟨b, 0, none⟩), .int .u8 (c.toNat : Int)] w fun e w' => e = .returned .nilIface ∧ Bld b (acc ++ [c]) w' ∧ Below b w w' := by
  refine (Any.Builder_WriteByte_k Tryz.lays167 Tryz.Builder_Extra_167 b b _ _ w h.1 (by rw [Lib.byteCells_length]; omega) (Nat.le_of_lt h.2)).mono ?_
  rintro e w' ⟨he, h1, h2, _⟩
  refine ⟨he, ⟨?_, Nat.lt_of_lt_of_le h.2 h2.size⟩, h2⟩
  rw [Lib.byteCells_append]
  exact .inr h1
theorem build_string (b : Nat) (acc : List UInt8) (w : World) (h : Bld b acc w) :
    Calls Tryz.prog 26 #[.pointer (some ⟨b, 0, none⟩)] w fun e w' => e = .returned (.string ⟨acc.toArray⟩) ∧ Below b w w' :=
  (Any.Builder_String_any_k Tryz.lays169 Tryz.Builder_Extra_169 b b acc w h.1 (Nat.le_of_lt h.2)).mono fun _ _ ⟨he, _, hb, _⟩ => ⟨he, hb⟩
theorem Bld.drewN {b : Nat} {acc : List UInt8} {w : World} (h : Bld b acc w) (n : Nat) : Bld b acc (w.drewN n) := by
  induction n generalizing w with
  | zero => exact h
  | succ n ih => exact ih (w := w.drew) ⟨h.1, h.2⟩
theorem drop_at (s : ByteArray) (k : Nat) (h : k < s.size) : s.data.toList.drop k = s[k] :: s.data.toList.drop (k + 1) := by
  have hl := size_len s
  rw [List.drop_eq_getElem_cons (by omega : k < s.data.toList.length)]
  rfl
theorem beq_u8 (a b : UInt8) : ((a.toNat : Int) == (b.toNat : Int)) = decide (a = b) := by
  rw [Bool.eq_iff_iff, beq_iff_eq, decide_eq_true_eq]
  exact ⟨fun h => UInt8.toNat_inj.1 (by omega), fun h => by rw [h]⟩
theorem bne_u8 (a b : UInt8) : ((a.toNat : Int) != (b.toNat : Int)) = !decide (a = b) := by
  rw [bne, beq_u8]
theorem below1 {W w1 : World} {n : Nat} (hb : Below n W w1) : (∀ b o, b < n → w1.cell? ⟨b, o, none⟩ = W.cell? ⟨b, o, none⟩) ∧ (∀ b o, b < n → w1.frozen? ⟨b, o, none⟩ = W.frozen? ⟨b, o, none⟩) :=
  ⟨fun b o h => hb.cell (p := ⟨b, o, none⟩) h, fun b o h => hb.frozen (p := ⟨b, o, none⟩) h⟩
theorem below_tok1 {w w1 : World} {o : Obj} (h : Below (w.heap.size + 1) (w.alloc o) w1) : Below w.heap.size w w1 := ((Below.refl _ _).alloc (Nat.le_refl _) _).trans (h.mono (by omega))
/-- what quoted hands back -/
def quoR (q : UInt8) (l : List UInt8) (k : Nat) (acc : List UInt8) : Except Nat (Plx.Tok × Nat) := match Plx.quo q l with
  | none => .error 220
  | some x => .ok ((3, acc ++ x.1, 0), x.2 + k)
theorem quoR_start (q : UInt8) (r : List UInt8) : Plx.quoL q r = quoR q r 1 [] := by
  unfold Plx.quoL quoR
  cases Plx.quo q r <;> rfl
theorem quoR_nil (q : UInt8) (k : Nat) (acc : List UInt8) : quoR q [] k acc = .error 220 := rfl
theorem quoR_other (q c : UInt8) (r : List UInt8) (k : Nat) (acc : List UInt8) (h : c ≠ q) : quoR q (c :: r) k acc = quoR q r (k + 1) (acc ++ [c]) := by
  unfold quoR
  rw [Plx.quo_other q c r h]
  cases Plx.quo q r with
  | none => rfl
  | some x => simp [Nat.add_assoc, Nat.add_comm 1 k]
theorem quoR_last (q : UInt8) (k : Nat) (acc : List UInt8) : quoR q [q] k acc = .ok ((3, acc, 0), k + 1) := by
  unfold quoR
  rw [Plx.quo_last]
  simp [Nat.add_comm]
theorem quoR_end (q d : UInt8) (r : List UInt8) (k : Nat) (acc : List UInt8) (h : d ≠ q) : quoR q (q :: d :: r) k acc = .ok ((3, acc, 0), k + 1) := by
  unfold quoR
  rw [Plx.quo_end q d r h]
  simp [Nat.add_comm]
theorem quoR_two (q : UInt8) (r : List UInt8) (k : Nat) (acc : List UInt8) : quoR q (q :: q :: r) k acc = quoR q r (k + 2) (acc ++ [q]) := by
  unfold quoR
  rw [Plx.quo_two]
  cases Plx.quo q r with
  | none => rfl
  | some x => simp [Nat.add_assoc, Nat.add_comm 2 k]
set_option maxRecDepth 100000 in
set_option maxHeartbeats 2000000 in
theorem quoted_any (s : ByteArray) (w : World) (hs : s.size ≤ 100000) (h0 : 0 < s.size) :
    Calls Tryz.prog 39 #[.string s] w fun e w' => e = .returned (resV (Plx.quoL s[0] (s.data.toList.drop 1))) ∧ Below w.heap.size w w' := by
  rw [quoR_start]
  generalize hT : quoR s[0] (s.data.toList.drop 1) 1 [] = T
  have HT := Lib.hid hT
  clear hT
  have HL := Kept.mk (size_len s)
  go_enter Tryz.func39, Tryz.ntmps39
  go_wp2
  go_loopw [6] (fun i wx => ∃ (k : Nat) (acc : List UInt8), 1 ≤ k ∧ k ≤ s.size ∧ i = .int .i64 k ∧ Bld (w.heap.size + 1) acc wx ∧ Below (w.heap.size + 1) (w.alloc (.cells #[.int .u8 0, .string ⟨#[]⟩, .int .i64 0, .int .i64 0] 36)) wx ∧ acc.length + 1 ≤ k ∧ Hid (quoR s[0] (s.data.toList.drop k) k acc = T)) (fun i _ => s.size - (intOf i).toNat)
  case atStart =>
    refine ⟨1, [], by omega, by omega, rfl, ?_, ?_, by simp, HT.out⟩
    · have h := bld_fresh (w.alloc (.cells #[.int .u8 0, .string ⟨#[]⟩, .int .i64 0, .int .i64 0] 36))
      simpa using h
    · exact (Below.refl _ _).alloc (by simp) _
  case round =>
    obtain ⟨k, acc, hk1, hk, rfl, hB, hbw, hal, H⟩ := hrel
    by_cases hlt : k < s.size
    · have h := H.out
      rw [drop_at s k hlt] at h
      have i0 : (0 : Int) ≤ (k : Int) := by omega
      have i1 : (k : Int) < (s.size : Int) := by omega
      by_cases hq : s[k] = s[0]
      · have e1 : ((s[k].toNat : Int) == (s[0].toNat : Int)) = true := by rw [beq_u8, decide_eq_true hq]
        rw [hq] at h
        by_cases hk2 : k + 1 = s.size
        · have hT : T = .ok ((3, acc, 0), k + 1) := by
            rw [← h, List.drop_eq_nil_of_le (by rw [HL.out]; omega), quoR_last]
          have e2 : ((k : Int) + 1 == (s.size : Int)) = true := by rw [beq_iff_eq]; omega
          have H1 := Lib.hid hT
          have HB := Kept.mk hB
          have HW := Kept.mk hbw
          clear h H hq hB hbw hT HT hk2
          go_wp2
          go_quiet (fail)
          go_wp2
          go_quiet (fail)
          go_wp2_with (fail)
          refine (build_string _ acc _ (by first | exact HB.out.drewN _ | exact (HB.out.drewN _).drewN _)).mono ?_; rintro e w2 ⟨rfl, hb2⟩
          have g2 := Below.trans (by first | exact below_drewN HW.out _ | exact below_drewN (below_drewN HW.out _) _) hb2
          obtain ⟨hc, hf⟩ := below1 g2
          have hz := g2.size
          go_wp2_with (fail)
          refine bodyPost_ret (v := resV (.ok ((3, acc, 0), k + 1))) (by simp [results, Tryz.results39, go_sem, hc, resV, tokVal]) rfl ⟨by rw [H1.out], ?_⟩
          exact set4 (below_tok1 g2)
        · have hlt2 : k + 1 < s.size := by omega
          have e2 : ((k : Int) + 1 == (s.size : Int)) = false := by simp; omega
          rw [drop_at s (k + 1) hlt2] at h
          have i2 : (0 : Int) ≤ (k : Int) + 1 := by omega
          have i3 : (k : Int) + 1 < (s.size : Int) := by omega
          have i4 : ((k : Int) + 1).toNat = k + 1 := by omega
          by_cases hq2 : s[k + 1] = s[0]
          · rw [hq2, quoR_two] at h
            have e3 : ((s[k + 1].toNat : Int) != (s[0].toNat : Int)) = false := by rw [bne_u8, decide_eq_true hq2]; rfl
            have HQ := Kept.mk hq2
            have H1 := Lib.hid h
            have HB := Kept.mk hB
            have HW := Kept.mk hbw
            clear h H hq hB hbw HT hq2 hk2
            go_wp2
            go_quiet (fail)
            go_wp2
            go_quiet (fail)
            go_wp2_with (fail)
            refine (write_byte _ acc s[k + 1] _ (by first | exact HB.out.drewN _ | exact (HB.out.drewN _).drewN _) (by omega)).mono ?_; rintro e w2 ⟨rfl, hB2, hb2⟩
            have g2 := Below.trans (by first | exact below_drewN HW.out _ | exact below_drewN (below_drewN HW.out _) _) hb2
            go_wp2_with (fail)
            go_roundw
            case rel => exact ⟨k + 2, acc ++ [s[k + 1]], by omega, by omega, by go_num, hB2, g2, by simp; omega, by show _ = _; rw [HQ.out]; exact H1.out⟩
            case measure => simp [intOf]; omega
          · rw [quoR_end _ _ _ _ _ hq2] at h
            have e3 : ((s[k + 1].toNat : Int) != (s[0].toNat : Int)) = true := by rw [bne_u8, decide_eq_false hq2]; rfl
            have H1 := Lib.hid h
            have HB := Kept.mk hB
            have HW := Kept.mk hbw
            clear h H hq hB hbw HT hq2 hk2
            go_wp2
            go_quiet (fail)
            go_wp2
            go_quiet (fail)
            go_wp2_with (fail)
            refine (build_string _ acc _ (by first | exact HB.out.drewN _ | exact (HB.out.drewN _).drewN _)).mono ?_; rintro e w2 ⟨rfl, hb2⟩
            have g2 := Below.trans (by first | exact below_drewN HW.out _ | exact below_drewN (below_drewN HW.out _) _) hb2
            obtain ⟨hc, hf⟩ := below1 g2
            have hz := g2.size
            go_wp2_with (fail)
            refine bodyPost_ret (v := resV (.ok ((3, acc, 0), k + 1))) (by simp [results, Tryz.results39, go_sem, hc, resV, tokVal]) rfl ⟨by rw [← H1.out], ?_⟩
            exact set4 (below_tok1 g2)
      · rw [quoR_other _ _ _ _ _ hq] at h
        have e1 : ((s[k].toNat : Int) == (s[0].toNat : Int)) = false := by rw [beq_u8, decide_eq_false hq]
        have H1 := Lib.hid h
        have HB := Kept.mk hB
        have HW := Kept.mk hbw
        clear h H hq hB hbw
        go_wp2
        go_quiet (fail)
        go_wp2_with (fail)
        refine (write_byte _ acc s[k] _ (HB.out.drewN _) (by omega)).mono ?_; rintro e w2 ⟨rfl, hB2, hb2⟩
        have g2 := (below_drewN HW.out _).trans hb2
        go_wp2_with (fail)
        go_roundw
        case rel => exact ⟨k + 1, acc ++ [s[k]], by omega, by omega, by go_num, hB2, g2, by simp; omega, H1.out⟩
        case measure => simp [intOf]; omega
    · obtain rfl : k = s.size := by omega
      have h := H.out
      rw [List.drop_eq_nil_of_le (by rw [HL.out]; exact Nat.le_refl _), quoR_nil] at h
      have H1 := Lib.hid h
      obtain ⟨hc, hf⟩ := below1 hbw
      have hz := hbw.size
      have HW := Kept.mk hbw
      clear h H HT hbw
      go_wp2
      refine bodyPost_ret (v := resV (.error 220)) (by simp [results, Tryz.results39, go_sem, hc, resV]) rfl ⟨by rw [H1.out], ?_⟩
      exact set4 (below_tok1 HW.out)
end Go.Proofs.YtfamljigcffngaaGreatDoor.Wlx
