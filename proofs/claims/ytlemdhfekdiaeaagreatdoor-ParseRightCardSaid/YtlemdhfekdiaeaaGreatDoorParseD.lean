/- The program's parser: a character by its number. -/
import Derived.Test.YtlemdhfekdiaeaaGreatDoorParseC
namespace Go.Proofs.YtlemdhfekdiaeaaGreatDoor.Wps
open Go Go.RowKit Go.Proofs.YtlemdhfekdiaeaaGreatDoor.Kb Go.Proofs.YtlemdhfekdiaeaaGreatDoor.Wch

def digO (hex : Bool) : Ppa.Bs → Option Nat
  | y :: _ => Ppa.digB hex y
  | [] => none
theorem digI_peek (hex : Bool) (r : Ppa.Bs) : digI hex (Ppa.peek r) = match digO hex r with | some d => (d : Int) | none => -1 := by
  cases r with
  | nil => cases hex <;> rfl
  | cons y t =>
    have b0 : y.toNat < 256 := y.toNat_lt
    unfold digO Ppa.digB digI
    simp only [UInt8.le_iff_toNat_le]
    rcases Nat.lt_or_ge y.toNat 128 with hy | hy
    · rw [peek_low y t hy]
      have e1 : (48 : UInt8).toNat = 48 := rfl
      have e2 : (57 : UInt8).toNat = 57 := rfl
      have e3 : (97 : UInt8).toNat = 97 := rfl
      have e4 : (102 : UInt8).toNat = 102 := rfl
      have e5 : (65 : UInt8).toNat = 65 := rfl
      have e6 : (70 : UInt8).toNat = 70 := rfl
      rw [e1, e2, e3, e4, e5, e6]
      by_cases h1 : 48 ≤ y.toNat ∧ y.toNat ≤ 57
      · rw [if_pos h1, if_pos (by omega)]
        show _ = ((y.toNat - 48 : Nat) : Int)
        omega
      · rw [if_neg h1, if_neg (by omega)]
        cases hex with
        | false => simp
        | true =>
          simp only [true_and]
          by_cases h2 : 97 ≤ y.toNat ∧ y.toNat ≤ 102
          · rw [if_pos h2, if_pos (by omega)]
            show _ = ((y.toNat - 87 : Nat) : Int)
            omega
          · rw [if_neg h2, if_neg (by omega)]
            by_cases h3 : 65 ≤ y.toNat ∧ y.toNat ≤ 70
            · rw [if_pos h3, if_pos (by omega)]
              show _ = ((y.toNat - 55 : Nat) : Int)
              omega
            · rw [if_neg h3, if_neg (by omega)]
    · have h1 := peek_high y t hy
      have e1 : (48 : UInt8).toNat = 48 := rfl
      have e2 : (57 : UInt8).toNat = 57 := rfl
      have e3 : (97 : UInt8).toNat = 97 := rfl
      have e4 : (102 : UInt8).toNat = 102 := rfl
      have e5 : (65 : UInt8).toNat = 65 := rfl
      have e6 : (70 : UInt8).toNat = 70 := rfl
      rw [e1, e2, e3, e4, e5, e6, if_neg (by omega), if_neg (by omega), if_neg (by omega), if_neg (by omega), if_neg (by omega), if_neg (by omega)]
theorem numG_more {hex any : Bool} {n d : Nat} {r : Ppa.Bs} (h : digO hex r = some d) : Ppa.numG hex n any r = if 1114111 < n * (if hex then 16 else 10) + d then .error r else Ppa.numG hex (n * (if hex then 16 else 10) + d) true r.tail := by
  cases r with
  | nil => cases h
  | cons y t =>
    have h : Ppa.digB hex y = some d := h
    rw [Ppa.numG, h]
    rfl
theorem numG_end {hex any : Bool} {n : Nat} {r : Ppa.Bs} (h : digO hex r = none) : Ppa.numG hex n any r = if any = false ∨ Ppa.peek r ≠ 59 ∨ Pch.charB n = false then .error r else .ok (n, r.tail) := by
  cases r with
  | nil => rw [Ppa.numG, if_pos (.inr (.inl (by decide)))]
  | cons y t =>
    have h : Ppa.digB hex y = none := h
    have hp : Ppa.peek (y :: t) = 59 ↔ y = 59 := by
      have := peek_is 59 (by decide) (y :: t)
      simp only [List.head?_cons, Option.some.injEq] at this
      exact this
    rw [Ppa.numG, h]
    simp only [ne_eq, hp]
    rfl
theorem digO_ne {hex : Bool} {d : Nat} {r : Ppa.Bs} (h : digO hex r = some d) : ∃ y t, r = y :: t := by
  cases r with
  | nil => cases h
  | cons y t => exact ⟨y, t, rfl⟩
theorem digO_lt {hex : Bool} {d : Nat} {r : Ppa.Bs} (h : digO hex r = some d) : d ≤ 15 := by
  cases r with
  | nil => cases h
  | cons y t =>
    unfold digO Ppa.digB at h
    simp only [UInt8.le_iff_toNat_le] at h
    have e1 : (48 : UInt8).toNat = 48 := rfl
    have e2 : (57 : UInt8).toNat = 57 := rfl
    have e3 : (97 : UInt8).toNat = 97 := rfl
    have e4 : (102 : UInt8).toNat = 102 := rfl
    have e5 : (65 : UInt8).toNat = 65 := rfl
    have e6 : (70 : UInt8).toNat = 70 := rfl
    rw [e1, e2, e3, e4, e5, e6] at h
    split at h
    · injection h with h; omega
    · split at h
      · injection h with h; omega
      · split at h
        · injection h with h; omega
        · cases h
def numV (n : Nat) : Value := .int .i32 (n : Int)
theorem peek_lo (r : Ppa.Bs) : -1 ≤ Ppa.peek r ∧ Ppa.peek r ≤ 1114111 := by
  unfold Ppa.peek
  split
  · omega
  · have := Lib.decodeL_rune r
    omega
set_option maxRecDepth 100000 in
set_option maxHeartbeats 4000000 in
theorem number_hex {B b : Nat} {s : ByteArray} {x : List Value} {r : Ppa.Bs} {w : World} (h : Pa B b s x r w) (hx : r.head? = some 120) :
    Calls Tryz.prog 126 #[.pointer (some ⟨b, 0, none⟩)] w fun e w' => WaysV B b s x w numV (Ppa.numG true 0 false r.tail) e w' := by
  have hpk := peek_is 120 (by decide) r
  obtain ⟨t, rfl⟩ : ∃ t, r = 120 :: t := by
    cases r with
    | nil => cases hx
    | cons y t => exact ⟨t, by injection hx with e; rw [e]⟩
  have hq := hpk.2 hx
  have CM := Kept.mk (may_r 120 (by omega) h)
  have e1 : Ppa.peek (120 :: t) = 120 := hq
  rw [decide_eq_true e1, if_pos e1, skip_low 120 t (by decide)] at CM
  rw [List.tail_cons]
  clear hq hpk e1 hx h
  generalize hT : Ppa.numG true 0 false t = T
  have HT := Kept.mk hT
  clear hT
  go_enter Tryz.func126, Tryz.ntmps126
  go_wp2_with (go_at_call 41; refine CM.out.mono ?_; rintro e w1 ⟨rfl, hP1, hg1⟩; have G1 := Kept.mk hg1; clear hg1 CM; have hs9 := hP1.small; obtain ⟨k0, hk0, c1⟩ := hP1.cell)
  have bx1 := beh_cell c1
  refine wp_region_beh (by kernel_rfl) (by kernel_rfl) ?_
  repeat
    (refine Qw_step (fun K hK => ?_)
     go_simp
     first
       | (refine hK _ ?_; clear hK K)
       | (apply Exists.intro
          refine ⟨fun _ => ?_, hK _ ?_⟩
          (fail)
          clear hK K))
  refine Qw_nil ?_
  rintro w2 ⟨⟨_, hb2⟩, rfl⟩
  have H2 := hP1.below hb2
  have G2 := Kept.mk (G1.out.trans (grown_of_below hb2 (some b)))
  clear bx1 hb2 c1 G1 hP1
  go_wp2_with (first | (go_at_call 77; refine (peek_r H2).mono ?_; rintro e w3 ⟨rfl, hb3⟩; have H3 := H2.below hb3; have G3 := Kept.mk (G2.out.trans (grown_of_below hb3 (some b))); clear hb3; have hlo := (peek_lo t).1; have hhi := (peek_lo t).2) | (go_at_call 139; refine (digit_any true (Ppa.peek t) _ hlo hhi).mono ?_; rintro e w4 ⟨rfl, rfl⟩))
  go_loopg [5, 7] t.length (fun g n5 d7 wx => ∃ (n : Nat) (r' : Ppa.Bs) (any : Bool), n5 = .int .i32 (n : Int) ∧ d7 = .int .i32 (digI true (Ppa.peek r')) ∧ Pa B b s x r' wx ∧ Kept (w.grownBy wx (some b)) ∧ Kept (Ppa.numG true n any r' = T) ∧ n ≤ 1114111 ∧ Kept (any = true ↔ r'.length < t.length) ∧ r'.length ≤ g ∧ r'.length ≤ t.length)
  case atStart => exact ⟨0, t, false, rfl, rfl, H3, G3, HT, by omega, ⟨by simp⟩, Nat.le_refl _, Nat.le_refl _⟩
  case round =>
    obtain ⟨n, r', any, rfl, rfl, hP, G, HE, hn, hany, hle, hle2⟩ := hrel
    have hs8 := hP.small
    obtain ⟨k1, hk1, c1⟩ := hP.cell
    have f1 := hP.row.unf 1
    have j0 : (0 : Int) ≤ (n : Int) := by omega
    have j1 : (n : Int) ≤ 1114111 := by omega
    have j2 : (0 : Int) ≤ (k1 : Int) := by omega
    have j3 : (k1 : Int) ≤ 65536 := by omega
    rw [digI_peek]
    cases hd : digO true r' with
    | some d =>
      obtain ⟨y, t', rfl⟩ := digO_ne hd
      have hd15 := digO_lt hd
      have h1 := HE.out
      rw [numG_more hd] at h1
      simp only [List.tail_cons, if_true] at h1
      have j4 : (0 : Int) ≤ (d : Int) := by omega
      have j5 : (d : Int) ≤ 15 := by omega
      obtain ⟨g, rfl⟩ : ∃ g, gk = g + 1 := ⟨gk - 1, by simp at hle; omega⟩
      by_cases hbig : 1114111 < n * 16 + d
      · rw [if_pos hbig] at h1
        have HX : Kept (T = .error (y :: t')) := ⟨h1.symm⟩
        have j6 : (1114111 : Int) < (n : Int) * 16 + (d : Int) := by omega
        clear h1 hd hbig HE
        go_wp2_with (go_at_call 44; refine (no_r hP).mono ?_; rintro e w6 ⟨rfl, rfl⟩)
        exact ⟨rfl, G.out, by rw [HX.out]; exact ⟨rfl, hP.len⟩⟩
      · rw [if_neg hbig] at h1
        have HN := Kept.mk h1
        have j6 : ¬ (1114111 : Int) < (n : Int) * 16 + (d : Int) := by omega
        clear h1 hd HE
        have HP6 : Pa B b s x t' (wr.setCell ⟨b, 1, none⟩ (.int .i64 ((k1 : Int) + 1))) := hP.put ((List.suffix_cons _ _).trans hP.suf) (by simp at hk1; omega)
        have hlo := (peek_lo t').1
        have hhi := (peek_lo t').2
        go_wp2_with (first | (go_at_call 77; refine (peek_r HP6).mono ?_; rintro e w7 ⟨rfl, hb7⟩; have H7 := HP6.below hb7; have G7 := Kept.mk ((grown_set G.out 1 _).trans (grown_of_below hb7 (some b))); clear hb7) | (go_at_call 139; refine (digit_any true (Ppa.peek t') _ hlo hhi).mono ?_; rintro e w8 ⟨rfl, rfl⟩))
        go_roundg g
        case measure => omega
        case rel => exact ⟨n * 16 + d, t', true, by congr 1, rfl, H7, G7, HN, by omega, ⟨by simp at hle2 ⊢; omega⟩, by simp at hle; omega, by simp at hle2; omega⟩
    | none =>
      have h1 := HE.out
      rw [numG_end hd] at h1
      clear hd HE
      cases any with
      | false =>
        rw [if_pos (.inl rfl)] at h1
        have HX : Kept (T = .error r') := ⟨h1.symm⟩
        have e1 : ((k1 : Int) == (k0 : Int)) = true := by
          have : ¬ r'.length < t.length := fun e => by have := hany.out.2 e; cases this
          rw [beq_iff_eq]; omega
        clear h1
        go_wp2_with (go_at_call 44; refine (no_r hP).mono ?_; rintro e w6 ⟨rfl, rfl⟩)
        exact ⟨rfl, G.out, by rw [HX.out]; exact ⟨rfl, hP.len⟩⟩
      | true =>
        have e1 : ((k1 : Int) == (k0 : Int)) = false := by
          have := hany.out.1 rfl
          simp; omega
        by_cases hsc : Ppa.peek r' = 59
        · have e2 : (Ppa.peek r' == 59) = true := by rw [beq_iff_eq]; exact hsc
          have hne := peek_ne (r := r') (by omega)
          obtain ⟨y, t', rfl⟩ : ∃ y t, r' = y :: t := by
            cases r' with
            | nil => exact absurd rfl hne
            | cons y t => exact ⟨y, t, rfl⟩
          cases hch : Pch.charB n with
          | false =>
            rw [if_pos (.inr (.inr hch))] at h1
            have HX : Kept (T = .error (y :: t')) := ⟨h1.symm⟩
            have HC := Kept.mk hch
            clear h1 hch
            go_wp2_with (first | (go_at_call 77; refine (peek_r hP).mono ?_; rintro e w7 ⟨rfl, hb7⟩; have H7 := hP.below hb7; have G7 := Kept.mk (G.out.trans (grown_of_below hb7 (some b))); clear hb7) | (go_at_call 70; refine (char_any (n : Int) _).mono ?_; rintro e w8 ⟨rfl, rfl⟩; rw [HC.out]) | (go_at_call 44; refine (no_r H7).mono ?_; rintro e w6 ⟨rfl, rfl⟩))
            exact ⟨rfl, G7.out, by rw [HX.out]; exact ⟨rfl, H7.len⟩⟩
          | true =>
            rw [if_neg (by simp [hsc, hch]), List.tail_cons] at h1
            have HX : Kept (T = .ok (n, t')) := ⟨h1.symm⟩
            have HC := Kept.mk hch
            clear h1 hch
            go_wp2_with (first | (go_at_call 77; refine (peek_r hP).mono ?_; rintro e w7 ⟨rfl, hb7⟩; have H7 := hP.below hb7; have G7 := Kept.mk (G.out.trans (grown_of_below hb7 (some b))); clear hb7; have d1 := H7.row.c1; have f7 := H7.row.unf 1; rw [show s.size - (y :: t').length = k1 by omega] at d1) | (go_at_call 70; refine (char_any (n : Int) _).mono ?_; rintro e w8 ⟨rfl, rfl⟩; rw [HC.out]))
            go_ret
            exact ⟨grown_set G7.out 1 _, by rw [HX.out]; exact ⟨rfl, H7.put ((List.suffix_cons _ _).trans H7.suf) (by simp at hk1; omega)⟩⟩
        · have e2 : (Ppa.peek r' == 59) = false := by simpa using hsc
          rw [if_pos (.inr (.inl hsc))] at h1
          have HX : Kept (T = .error r') := ⟨h1.symm⟩
          clear h1
          go_wp2_with (first | (go_at_call 77; refine (peek_r hP).mono ?_; rintro e w7 ⟨rfl, hb7⟩; have H7 := hP.below hb7; have G7 := Kept.mk (G.out.trans (grown_of_below hb7 (some b))); clear hb7) | (go_at_call 44; refine (no_r H7).mono ?_; rintro e w6 ⟨rfl, rfl⟩))
          exact ⟨rfl, G7.out, by rw [HX.out]; exact ⟨rfl, H7.len⟩⟩
set_option maxRecDepth 100000 in
set_option maxHeartbeats 4000000 in
theorem number_dec {B b : Nat} {s : ByteArray} {x : List Value} {r : Ppa.Bs} {w : World} (h : Pa B b s x r w) (hx : r.head? ≠ some 120) :
    Calls Tryz.prog 126 #[.pointer (some ⟨b, 0, none⟩)] w fun e w' => WaysV B b s x w numV (Ppa.numG false 0 false r) e w' := by
  have hpk := peek_is 120 (by decide) r
  have hq : ¬ Ppa.peek r = 120 := fun e => hx (hpk.1 e)
  have CM := Kept.mk (may_r 120 (by omega) h)
  rw [decide_eq_false hq, if_neg hq] at CM
  clear hq hpk hx h
  generalize hT : Ppa.numG false 0 false r = T
  have HT := Kept.mk hT
  clear hT
  go_enter Tryz.func126, Tryz.ntmps126
  go_wp2_with (go_at_call 41; refine CM.out.mono ?_; rintro e w1 ⟨rfl, hP1, hg1⟩; have G1 := Kept.mk hg1; clear hg1 CM; have hs9 := hP1.small; obtain ⟨k0, hk0, c1⟩ := hP1.cell)
  have bx1 := beh_cell c1
  refine wp_region_beh (by kernel_rfl) (by kernel_rfl) ?_
  repeat
    (refine Qw_step (fun K hK => ?_)
     go_simp
     first
       | (refine hK _ ?_; clear hK K)
       | (apply Exists.intro
          refine ⟨fun _ => ?_, hK _ ?_⟩
          (fail)
          clear hK K))
  refine Qw_nil ?_
  rintro w2 ⟨⟨_, hb2⟩, rfl⟩
  have H2 := hP1.below hb2
  have G2 := Kept.mk (G1.out.trans (grown_of_below hb2 (some b)))
  clear bx1 hb2 c1 G1 hP1
  go_wp2_with (first | (go_at_call 77; refine (peek_r H2).mono ?_; rintro e w3 ⟨rfl, hb3⟩; have H3 := H2.below hb3; have G3 := Kept.mk (G2.out.trans (grown_of_below hb3 (some b))); clear hb3; have hlo := (peek_lo r).1; have hhi := (peek_lo r).2) | (go_at_call 139; refine (digit_any false (Ppa.peek r) _ hlo hhi).mono ?_; rintro e w4 ⟨rfl, rfl⟩))
  go_loopg [5, 7] r.length (fun g n5 d7 wx => ∃ (n : Nat) (r' : Ppa.Bs) (any : Bool), n5 = .int .i32 (n : Int) ∧ d7 = .int .i32 (digI false (Ppa.peek r')) ∧ Pa B b s x r' wx ∧ Kept (w.grownBy wx (some b)) ∧ Kept (Ppa.numG false n any r' = T) ∧ n ≤ 1114111 ∧ Kept (any = true ↔ r'.length < r.length) ∧ r'.length ≤ g ∧ r'.length ≤ r.length)
  case atStart => exact ⟨0, r, false, rfl, rfl, H3, G3, HT, by omega, ⟨by simp⟩, Nat.le_refl _, Nat.le_refl _⟩
  case round =>
    obtain ⟨n, r', any, rfl, rfl, hP, G, HE, hn, hany, hle, hle2⟩ := hrel
    have hs8 := hP.small
    obtain ⟨k1, hk1, c1⟩ := hP.cell
    have f1 := hP.row.unf 1
    have j0 : (0 : Int) ≤ (n : Int) := by omega
    have j1 : (n : Int) ≤ 1114111 := by omega
    have j2 : (0 : Int) ≤ (k1 : Int) := by omega
    have j3 : (k1 : Int) ≤ 65536 := by omega
    rw [digI_peek]
    cases hd : digO false r' with
    | some d =>
      obtain ⟨y, t', rfl⟩ := digO_ne hd
      have hd15 := digO_lt hd
      have h1 := HE.out
      rw [numG_more hd] at h1
      simp only [List.tail_cons, Bool.false_eq_true, if_false] at h1
      have j4 : (0 : Int) ≤ (d : Int) := by omega
      have j5 : (d : Int) ≤ 15 := by omega
      obtain ⟨g, rfl⟩ : ∃ g, gk = g + 1 := ⟨gk - 1, by simp at hle; omega⟩
      by_cases hbig : 1114111 < n * 10 + d
      · rw [if_pos hbig] at h1
        have HX : Kept (T = .error (y :: t')) := ⟨h1.symm⟩
        have j6 : (1114111 : Int) < (n : Int) * 10 + (d : Int) := by omega
        clear h1 hd hbig HE
        go_wp2_with (go_at_call 44; refine (no_r hP).mono ?_; rintro e w6 ⟨rfl, rfl⟩)
        exact ⟨rfl, G.out, by rw [HX.out]; exact ⟨rfl, hP.len⟩⟩
      · rw [if_neg hbig] at h1
        have HN := Kept.mk h1
        have j6 : ¬ (1114111 : Int) < (n : Int) * 10 + (d : Int) := by omega
        clear h1 hd HE
        have HP6 : Pa B b s x t' (wr.setCell ⟨b, 1, none⟩ (.int .i64 ((k1 : Int) + 1))) := hP.put ((List.suffix_cons _ _).trans hP.suf) (by simp at hk1; omega)
        have hlo := (peek_lo t').1
        have hhi := (peek_lo t').2
        go_wp2_with (first | (go_at_call 77; refine (peek_r HP6).mono ?_; rintro e w7 ⟨rfl, hb7⟩; have H7 := HP6.below hb7; have G7 := Kept.mk ((grown_set G.out 1 _).trans (grown_of_below hb7 (some b))); clear hb7) | (go_at_call 139; refine (digit_any false (Ppa.peek t') _ hlo hhi).mono ?_; rintro e w8 ⟨rfl, rfl⟩))
        go_roundg g
        case measure => omega
        case rel => exact ⟨n * 10 + d, t', true, by congr 1, rfl, H7, G7, HN, by omega, ⟨by simp at hle2 ⊢; omega⟩, by simp at hle; omega, by simp at hle2; omega⟩
    | none =>
      have h1 := HE.out
      rw [numG_end hd] at h1
      clear hd HE
      cases any with
      | false =>
        rw [if_pos (.inl rfl)] at h1
        have HX : Kept (T = .error r') := ⟨h1.symm⟩
        have e1 : ((k1 : Int) == (k0 : Int)) = true := by
          have : ¬ r'.length < r.length := fun e => by have := hany.out.2 e; cases this
          rw [beq_iff_eq]; omega
        clear h1
        go_wp2_with (go_at_call 44; refine (no_r hP).mono ?_; rintro e w6 ⟨rfl, rfl⟩)
        exact ⟨rfl, G.out, by rw [HX.out]; exact ⟨rfl, hP.len⟩⟩
      | true =>
        have e1 : ((k1 : Int) == (k0 : Int)) = false := by
          have := hany.out.1 rfl
          simp; omega
        by_cases hsc : Ppa.peek r' = 59
        · have e2 : (Ppa.peek r' == 59) = true := by rw [beq_iff_eq]; exact hsc
          have hne := peek_ne (r := r') (by omega)
          obtain ⟨y, t', rfl⟩ : ∃ y t, r' = y :: t := by
            cases r' with
            | nil => exact absurd rfl hne
            | cons y t => exact ⟨y, t, rfl⟩
          cases hch : Pch.charB n with
          | false =>
            rw [if_pos (.inr (.inr hch))] at h1
            have HX : Kept (T = .error (y :: t')) := ⟨h1.symm⟩
            have HC := Kept.mk hch
            clear h1 hch
            go_wp2_with (first | (go_at_call 77; refine (peek_r hP).mono ?_; rintro e w7 ⟨rfl, hb7⟩; have H7 := hP.below hb7; have G7 := Kept.mk (G.out.trans (grown_of_below hb7 (some b))); clear hb7) | (go_at_call 70; refine (char_any (n : Int) _).mono ?_; rintro e w8 ⟨rfl, rfl⟩; rw [HC.out]) | (go_at_call 44; refine (no_r H7).mono ?_; rintro e w6 ⟨rfl, rfl⟩))
            exact ⟨rfl, G7.out, by rw [HX.out]; exact ⟨rfl, H7.len⟩⟩
          | true =>
            rw [if_neg (by simp [hsc, hch]), List.tail_cons] at h1
            have HX : Kept (T = .ok (n, t')) := ⟨h1.symm⟩
            have HC := Kept.mk hch
            clear h1 hch
            go_wp2_with (first | (go_at_call 77; refine (peek_r hP).mono ?_; rintro e w7 ⟨rfl, hb7⟩; have H7 := hP.below hb7; have G7 := Kept.mk (G.out.trans (grown_of_below hb7 (some b))); clear hb7; have d1 := H7.row.c1; have f7 := H7.row.unf 1; rw [show s.size - (y :: t').length = k1 by omega] at d1) | (go_at_call 70; refine (char_any (n : Int) _).mono ?_; rintro e w8 ⟨rfl, rfl⟩; rw [HC.out]))
            go_ret
            exact ⟨grown_set G7.out 1 _, by rw [HX.out]; exact ⟨rfl, H7.put ((List.suffix_cons _ _).trans H7.suf) (by simp at hk1; omega)⟩⟩
        · have e2 : (Ppa.peek r' == 59) = false := by simpa using hsc
          rw [if_pos (.inr (.inl hsc))] at h1
          have HX : Kept (T = .error r') := ⟨h1.symm⟩
          clear h1
          go_wp2_with (first | (go_at_call 77; refine (peek_r hP).mono ?_; rintro e w7 ⟨rfl, hb7⟩; have H7 := hP.below hb7; have G7 := Kept.mk (G.out.trans (grown_of_below hb7 (some b))); clear hb7) | (go_at_call 44; refine (no_r H7).mono ?_; rintro e w6 ⟨rfl, rfl⟩))
          exact ⟨rfl, G7.out, by rw [HX.out]; exact ⟨rfl, H7.len⟩⟩
end Go.Proofs.YtlemdhfekdiaeaaGreatDoor.Wps
