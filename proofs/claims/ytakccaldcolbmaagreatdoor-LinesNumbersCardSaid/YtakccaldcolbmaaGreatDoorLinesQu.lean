/- The walk over the program's Quote (chapter 31). -/
import Derived.Test.YtakccaldcolbmaaGreatDoorLinesTx
namespace Go.Proofs.YtakccaldcolbmaaGreatDoor.Wln
open Go Go.RowKit Go.Proofs.YtakccaldcolbmaaGreatDoor.Kb

theorem write_str (b : Nat) (acc : List UInt8) (s : ByteArray) (w : World) (h : Bld b acc w) (hl : acc.length + s.size ≤ 1000000000000) :
    Calls Tryz.prog 24 #[.pointer (some ⟨b, 0, none⟩), .string s] w fun e w' => e = .returned (.tuple #[.int .i64 s.size, .nilIface]) ∧ Bld b (acc ++ s.data.toList) w' ∧ Below b w w' := by
  refine (Any.Builder_WriteString_k Tryz.lays166 Tryz.Builder_Extra_166 b b _ _ w h.1 (by rw [Lib.byteCells_length]; omega) (Nat.le_of_lt h.2)).mono ?_
  rintro e w' ⟨he, h1, h2, _⟩
  refine ⟨he, ⟨?_, Nat.lt_of_lt_of_le h.2 h2.size⟩, h2⟩
  rw [Lib.byteCells_append]
  exact .inr h1
theorem quoC_len (c : UInt8) : (Pln.quoC c).length ≤ 4 := by
  unfold Pln.quoC
  repeat' split
  all_goals simp
theorem quo_len : ∀ l : List UInt8, (l.flatMap Pln.quoC).length ≤ 4 * l.length
  | [] => by simp
  | c :: l => by
    have h1 := quoC_len c
    have h2 := quo_len l
    rw [List.flatMap_cons, List.length_append, List.length_cons]
    omega
/-- what has been written, one byte on -/
theorem acc_step {S : List UInt8} {k : Nat} {c : UInt8} (h : S[k]? = some c) : 34 :: ((S.take (k + 1)).flatMap Pln.quoC) = (34 :: (S.take k).flatMap Pln.quoC) ++ Pln.quoC c := by
  rw [List.take_add_one, h]
  simp
theorem one_at {u : ByteArray} {k : Nat} (hk : k < u.size) : u.extract k (k + 1) = ⟨#[u[k]]⟩ := by
  rw [extract_drop]
  have d1 : u.data.toList.drop k = u[k] :: u.data.toList.drop (k + 1) := Pln.drop_at (byte_get u k hk)
  rw [d1, show k + 1 - k = 1 by omega]
  rfl
theorem cat2 (c : UInt8) : ((⟨#[92]⟩ : ByteArray) ++ ⟨#[c]⟩).data.toList = [92, c] := by simp
theorem hex_get : ∀ (n : Nat) (h : n < (⟨#[48, 49, 50, 51, 52, 53, 54, 55, 56, 57, 97, 98, 99, 100, 101, 102]⟩ : ByteArray).size), (⟨#[48, 49, 50, 51, 52, 53, 54, 55, 56, 57, 97, 98, 99, 100, 101, 102]⟩ : ByteArray)[n] = Pln.hexC n := by
  intro n h
  have hn : n < 16 := h
  rcases (by omega : n = 0 ∨ n = 1 ∨ n = 2 ∨ n = 3 ∨ n = 4 ∨ n = 5 ∨ n = 6 ∨ n = 7 ∨ n = 8 ∨ n = 9 ∨ n = 10 ∨ n = 11 ∨ n = 12 ∨ n = 13 ∨ n = 14 ∨ n = 15) with rfl | rfl | rfl | rfl | rfl | rfl | rfl | rfl | rfl | rfl | rfl | rfl | rfl | rfl | rfl | rfl
  all_goals rfl
theorem cat2s (c : UInt8) : ((⟨#[92]⟩ : ByteArray) ++ ⟨#[c]⟩).size = 2 := by rw [← size_len, cat2]; rfl
theorem write_hex (b : Nat) (acc : List UInt8) (n : Nat) (hn : n < (⟨#[48, 49, 50, 51, 52, 53, 54, 55, 56, 57, 97, 98, 99, 100, 101, 102]⟩ : ByteArray).size) (w : World) (h : Bld b acc w) (hl : acc.length ≤ 1000000) :
    Calls Tryz.prog 23 #[.pointer (some ⟨b, 0, none⟩), .int .u8 (((⟨#[48, 49, 50, 51, 52, 53, 54, 55, 56, 57, 97, 98, 99, 100, 101, 102]⟩ : ByteArray)[n]'hn).toNat : Int)] w fun e w' => e = .returned .nilIface ∧ Bld b (acc ++ [Pln.hexC n]) w' ∧ Below b w w' :=
  write_byte b acc (Pln.hexC n) _ (by rw [hex_get n hn]) w h hl
theorem bits15 : ∀ n : Nat, n < 256 → bits BinOp.and IntKind.u8 (n : Int) 15 = ((n % 16 : Nat) : Int) := by decide +kernel
set_option maxRecDepth 100000 in
set_option maxHeartbeats 8000000 in
theorem Quote_any (s : ByteArray) (w : World) (hs : s.size ≤ 100000) : Calls Tryz.prog 11 #[.string s] w fun e w' => e = .returned (.string ⟨(Pln.quoL s.data.toList).toArray⟩) ∧ Below w.heap.size w w' := by
  have hl := size_len s
  have HX := Kept.mk (fun k h => byte_get s k h)
  obtain ⟨R, hR⟩ : ∃ R, Pln.quoL s.data.toList = R := ⟨_, rfl⟩
  rw [hR]
  have HR := Kept.mk hR
  generalize hSS : s.data.toList = S at HX hl HR
  have HS := Kept.mk hSS
  clear hR hSS
  have hB0 : Below w.heap.size w (w.alloc (.cells #[.pointer none, .slice none 0 0] 57)) := (Below.refl _ _).alloc (Nat.le_refl _) _
  have HB0 := Kept.mk hB0
  clear hB0
  have cW0 := write_byte w.heap.size [] 34 34 rfl _ (bld_fresh w) (by simp)
  have CW0 := Kept.mk cW0
  clear cW0
  go_enter Tryz.func11, Tryz.ntmps11
  go_wp2_with (go_at_call 23; refine CW0.out.mono ?_; rintro e w5 ⟨rfl, hbl5, hb5⟩; have O5 := Kept.mk hbl5; have B5 := Kept.mk (HB0.out.trans hb5); clear hbl5 hb5)
  go_loopw [4, 5, 9] (fun _ _ i wx => ∃ k : Nat, i = .int .i64 k ∧ k ≤ s.size ∧ Kept (Bld w.heap.size (34 :: (S.take k).flatMap Pln.quoC) wx) ∧ Kept (Below w.heap.size w wx)) (fun _ _ i _ => s.size - (intOf i).toNat)
  case atStart => exact ⟨0, rfl, by omega, O5, B5⟩
  case round =>
    clear O5 B5 CW0 HB0
    obtain ⟨k, rfl, hk, HO, HB⟩ := hrel
    have k0 : (0 : Int) ≤ (k : Int) := by omega
    by_cases hlt : k < s.size
    · have k1 : (k : Int) < (s.size : Int) := by omega
      have hx := HX.out k hlt
      have hst := acc_step hx
      have hal : (34 :: (S.take k).flatMap Pln.quoC).length ≤ 4 * k + 1 := by
        have := quo_len (S.take k)
        rw [List.length_cons]
        rw [List.length_take] at this
        omega
      have HST := Kept.mk hst
      generalize (34 :: (S.take k).flatMap Pln.quoC) = acc at HST HO hal
      clear hst hx
      have k2 : (k : Int) ≤ (k : Int) + 1 := by omega
      have k3 : (k : Int) + 1 ≤ (s.size : Int) := by omega
      have kt : ((k : Int) + 1).toNat = k + 1 := by omega
      have hxe := one_at hlt
      have hc := s[k].toNat_lt
      generalize hcc : s[k] = c at HST hxe hc
      by_cases d34 : c.toNat = 34
      · have g34 : ((c.toNat : Nat) : Int) = 34 := by omega
        have hd : c = 34 := UInt8.toNat_inj.1 (by rw [d34]; rfl)
        subst hd
        have cW := fun wx (hx : Bld w.heap.size acc wx) => write_str w.heap.size acc ((⟨#[92]⟩ : ByteArray) ++ ⟨#[34]⟩) wx hx (by have : ((⟨#[92]⟩ : ByteArray) ++ ⟨#[34]⟩).size = 2 := cat2s _; omega)
        have CW := Kept.mk cW
        clear cW
        go_wp2_with (go_at_call 24; refine (CW.out _ HO.out).mono ?_; rintro e w5 ⟨rfl, hbl5, hb5⟩; have O5 := Kept.mk hbl5; have B5 := Kept.mk (HB.out.trans hb5); clear hbl5 hb5)
        go_roundw
        case rel => exact ⟨k + 1, by go_num, by omega, ⟨by rw [HST.out, show Pln.quoC 34 = ((⟨#[92]⟩ : ByteArray) ++ ⟨#[34]⟩).data.toList by rw [cat2]; decide]; exact O5.out⟩, B5⟩
        case measure => simp [intOf]; omega
      have g34 : (((c.toNat : Nat) : Int) == 34) = false := by simp; omega
      by_cases d92 : c.toNat = 92
      · have g92 : ((c.toNat : Nat) : Int) = 92 := by omega
        have hd : c = 92 := UInt8.toNat_inj.1 (by rw [d92]; rfl)
        subst hd
        have cW := fun wx (hx : Bld w.heap.size acc wx) => write_str w.heap.size acc ((⟨#[92]⟩ : ByteArray) ++ ⟨#[92]⟩) wx hx (by have : ((⟨#[92]⟩ : ByteArray) ++ ⟨#[92]⟩).size = 2 := cat2s _; omega)
        have CW := Kept.mk cW
        clear cW
        go_wp2_with (go_at_call 24; refine (CW.out _ HO.out).mono ?_; rintro e w5 ⟨rfl, hbl5, hb5⟩; have O5 := Kept.mk hbl5; have B5 := Kept.mk (HB.out.trans hb5); clear hbl5 hb5)
        go_roundw
        case rel => exact ⟨k + 1, by go_num, by omega, ⟨by rw [HST.out, show Pln.quoC 92 = ((⟨#[92]⟩ : ByteArray) ++ ⟨#[92]⟩).data.toList by rw [cat2]; decide]; exact O5.out⟩, B5⟩
        case measure => simp [intOf]; omega
      have g92 : (((c.toNat : Nat) : Int) == 92) = false := by simp; omega
      by_cases d10 : c.toNat = 10
      · have g10 : ((c.toNat : Nat) : Int) = 10 := by omega
        have hd : c = 10 := UInt8.toNat_inj.1 (by rw [d10]; rfl)
        subst hd
        have cW := fun wx (hx : Bld w.heap.size acc wx) => write_str w.heap.size acc (⟨#[92, 110]⟩ : ByteArray) wx hx (by have : (⟨#[92, 110]⟩ : ByteArray).size = 2 := rfl; omega)
        have CW := Kept.mk cW
        clear cW
        go_wp2_with (go_at_call 24; refine (CW.out _ HO.out).mono ?_; rintro e w5 ⟨rfl, hbl5, hb5⟩; have O5 := Kept.mk hbl5; have B5 := Kept.mk (HB.out.trans hb5); clear hbl5 hb5)
        go_roundw
        case rel => exact ⟨k + 1, by go_num, by omega, ⟨by rw [HST.out, show Pln.quoC 10 = (⟨#[92, 110]⟩ : ByteArray).data.toList by decide]; exact O5.out⟩, B5⟩
        case measure => simp [intOf]; omega
      have g10 : (((c.toNat : Nat) : Int) == 10) = false := by simp; omega
      by_cases d9 : c.toNat = 9
      · have g9 : ((c.toNat : Nat) : Int) = 9 := by omega
        have hd : c = 9 := UInt8.toNat_inj.1 (by rw [d9]; rfl)
        subst hd
        have cW := fun wx (hx : Bld w.heap.size acc wx) => write_str w.heap.size acc (⟨#[92, 116]⟩ : ByteArray) wx hx (by have : (⟨#[92, 116]⟩ : ByteArray).size = 2 := rfl; omega)
        have CW := Kept.mk cW
        clear cW
        go_wp2_with (go_at_call 24; refine (CW.out _ HO.out).mono ?_; rintro e w5 ⟨rfl, hbl5, hb5⟩; have O5 := Kept.mk hbl5; have B5 := Kept.mk (HB.out.trans hb5); clear hbl5 hb5)
        go_roundw
        case rel => exact ⟨k + 1, by go_num, by omega, ⟨by rw [HST.out, show Pln.quoC 9 = (⟨#[92, 116]⟩ : ByteArray).data.toList by decide]; exact O5.out⟩, B5⟩
        case measure => simp [intOf]; omega
      have g9 : (((c.toNat : Nat) : Int) == 9) = false := by simp; omega
      have n34 : ¬ (c = 34 ∨ c = 92) := fun e => e.elim (fun e => d34 (by rw [e]; rfl)) (fun e => d92 (by rw [e]; rfl))
      have n10 : ¬ c = 10 := fun e => d10 (by rw [e]; rfl)
      have n9 : ¬ c = 9 := fun e => d9 (by rw [e]; rfl)
      have hb15 := bits15 c.toNat hc
      have u16 : c.toNat / 16 < 16 := by omega
      have v16 : c.toNat % 16 < 16 := by omega
      by_cases dq : c.toNat < 32 ∨ 126 < c.toNat
      · have hq : Pln.quoC c = [92, 120, Pln.hexC (c.toNat / 16), Pln.hexC (c.toNat % 16)] := by
          unfold Pln.quoC
          rw [if_neg n34, if_neg n10, if_neg n9, if_pos (dq.imp (fun h => UInt8.lt_iff_toNat_lt.2 h) (fun h => UInt8.lt_iff_toNat_lt.2 h))]
        have HQ := Kept.mk hq
        have HAL := Kept.mk hal
        clear hq n34 n10 n9 d34 d92 d10 d9
        by_cases d0 : c.toNat < 32
        · have f0 : ((c.toNat : Nat) : Int) < 32 := by omega
          clear dq
          have cW := fun wx (hx : Bld w.heap.size acc wx) => write_str w.heap.size acc (⟨#[92, 120]⟩ : ByteArray) wx hx (by have : (⟨#[92, 120]⟩ : ByteArray).size = 2 := rfl; omega)
          have CW := Kept.mk cW
          clear cW
          go_wp2_with (first
            | (go_at_call 24; refine (CW.out _ HO.out).mono ?_; rintro e w5 ⟨rfl, hbl5, hb5⟩; have O5 := Kept.mk hbl5; have B5 := Kept.mk (HB.out.trans hb5); clear hbl5 hb5)
            | (go_at_call 23; first
                | (have Ox := O6; refine (write_hex w.heap.size _ _ _ _ O6.out (by have := HAL.out; simp; omega)).mono ?_; rintro e w7 ⟨rfl, hbl7, hb7⟩; have O7 := Kept.mk hbl7; have B7 := Kept.mk (B6.out.trans hb7); clear hbl7 hb7 Ox)
                | (refine (write_hex w.heap.size _ _ _ _ O5.out (by have := HAL.out; simp; omega)).mono ?_; rintro e w6 ⟨rfl, hbl6, hb6⟩; have O6 := Kept.mk hbl6; have B6 := Kept.mk (B5.out.trans hb6); clear hbl6 hb6)))
          go_roundw
          case rel => exact ⟨k + 1, by go_num, by omega, ⟨by rw [HST.out, HQ.out]; have := O7.out; simpa using this⟩, B7⟩
          case measure => simp [intOf]; omega
        · have f0 : ¬ ((c.toNat : Nat) : Int) < 32 := by omega
          have f1 : (126 : Int) < ((c.toNat : Nat) : Int) := by omega
          clear dq
          have cW := fun wx (hx : Bld w.heap.size acc wx) => write_str w.heap.size acc (⟨#[92, 120]⟩ : ByteArray) wx hx (by have : (⟨#[92, 120]⟩ : ByteArray).size = 2 := rfl; omega)
          have CW := Kept.mk cW
          clear cW
          go_wp2_with (first
            | (go_at_call 24; refine (CW.out _ HO.out).mono ?_; rintro e w5 ⟨rfl, hbl5, hb5⟩; have O5 := Kept.mk hbl5; have B5 := Kept.mk (HB.out.trans hb5); clear hbl5 hb5)
            | (go_at_call 23; first
                | (have Ox := O6; refine (write_hex w.heap.size _ _ _ _ O6.out (by have := HAL.out; simp; omega)).mono ?_; rintro e w7 ⟨rfl, hbl7, hb7⟩; have O7 := Kept.mk hbl7; have B7 := Kept.mk (B6.out.trans hb7); clear hbl7 hb7 Ox)
                | (refine (write_hex w.heap.size _ _ _ _ O5.out (by have := HAL.out; simp; omega)).mono ?_; rintro e w6 ⟨rfl, hbl6, hb6⟩; have O6 := Kept.mk hbl6; have B6 := Kept.mk (B5.out.trans hb6); clear hbl6 hb6)))
          go_roundw
          case rel => exact ⟨k + 1, by go_num, by omega, ⟨by rw [HST.out, HQ.out]; have := O7.out; simpa using this⟩, B7⟩
          case measure => simp [intOf]; omega
      · have hq : Pln.quoC c = [c] := by
          unfold Pln.quoC
          rw [if_neg n34, if_neg n10, if_neg n9, if_neg (fun e => dq (e.imp (fun h => (UInt8.lt_iff_toNat_lt.1 h : c.toNat < (32 : UInt8).toNat)) (fun h => (UInt8.lt_iff_toNat_lt.1 h : (126 : UInt8).toNat < c.toNat))))]
        have f0 : ¬ ((c.toNat : Nat) : Int) < 32 := by omega
        have f1 : ¬ (126 : Int) < ((c.toNat : Nat) : Int) := by omega
        have HQ := Kept.mk hq
        have cW := fun wx (hx : Bld w.heap.size acc wx) => write_byte w.heap.size acc c (c.toNat : Int) rfl wx hx (by omega)
        have CW := Kept.mk cW
        clear hq n34 n10 n9 d34 d92 d10 d9 cW dq
        go_wp2_with (go_at_call 23; refine (CW.out _ HO.out).mono ?_; rintro e w5 ⟨rfl, hbl5, hb5⟩; have O5 := Kept.mk hbl5; have B5 := Kept.mk (HB.out.trans hb5); clear hbl5 hb5)
        go_roundw
        case rel => exact ⟨k + 1, by go_num, by omega, ⟨by rw [HST.out, HQ.out]; exact O5.out⟩, B5⟩
        case measure => simp [intOf]; omega
    · obtain rfl : k = s.size := by omega
      have hfin : (34 :: (S.take s.size).flatMap Pln.quoC) ++ [34] = R := by
        rw [← HR.out, List.take_of_length_le (by omega)]
        rfl
      have hal : (34 :: (S.take s.size).flatMap Pln.quoC).length ≤ 4 * s.size + 1 := by
        have := quo_len (S.take s.size)
        rw [List.length_cons]
        rw [List.length_take] at this
        omega
      generalize (34 :: (S.take s.size).flatMap Pln.quoC) = acc at hfin HO hal
      have cW := write_byte w.heap.size acc 34 34 rfl wr HO.out (by omega)
      have CW := Kept.mk cW
      have HF := Kept.mk hfin
      clear cW hfin
      go_wp2_with (first
        | (go_at_call 23; refine CW.out.mono ?_; rintro e w5 ⟨rfl, hbl5, hb5⟩; have O5 := Kept.mk hbl5; have B5 := Kept.mk (HB.out.trans hb5); clear hbl5 hb5)
        | (go_at_call 25; refine (build_string w.heap.size _ _ O5.out).mono ?_; rintro e w6 ⟨rfl, hb6⟩; have B6 := Kept.mk (B5.out.trans hb6); clear hb6))
      go_ret
      exact ⟨by rw [← HF.out]; simp, B6.out⟩
end Go.Proofs.YtakccaldcolbmaaGreatDoor.Wln
