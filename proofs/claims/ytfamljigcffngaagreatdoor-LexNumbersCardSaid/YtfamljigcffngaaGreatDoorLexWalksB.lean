/- The walks over the program's comment and whole (chapter 22). -/
import Derived.Test.YtfamljigcffngaaGreatDoorLexEnv0
import Derived.Deep.DeepFit
import Derived.Lib.SmallJoins
import Derived.WalkSmall
import Derived.WalkSpells
import Derived.WalkLawsBesides
namespace Go.Proofs.YtfamljigcffngaaGreatDoor.Wlx
open Go Go.RowKit Go.Proofs.YtfamljigcffngaaGreatDoor.Wch

theorem prefix_call (s : ByteArray) (k : Nat) (p : List UInt8) (w : World) :
    Calls Tryz.prog 16 #[.string (s.extract k s.size), .string ⟨p.toArray⟩] w fun e w' => e = .returned (.bool (Lib.hasPrefix (s.data.toList.drop k) p)) ∧ w = w' := by
  have h := Any.strings_HasPrefix Tryz.lays99 (s.extract k s.size) ⟨p.toArray⟩ w
  rw [Lib.extract_to_end] at h
  exact h.mono fun e w' ⟨he, hw⟩ => ⟨he, hw.symm⟩
def comI : Option Nat → Int
  | none => 0
  | some n => n
set_option maxHeartbeats 1000000 in
theorem comment_any (s : ByteArray) (w : World) (hs : s.size ≤ 4611686018427387904) :
    Calls Tryz.prog 17 #[.string s] w fun e w' => e = .returned (.int .i64 (comI (Plx.com 0 s.data.toList))) ∧ w = w' := by
  generalize hT : Plx.com 0 s.data.toList = T
  have HT := Lib.hid hT
  clear hT
  have hl := size_len s
  have HL := Kept.mk hl
  clear hl
  go_enter Tryz.func17, Tryz.ntmps17
  go_wp2
  go_loop [3, 4] (fun d i => ∃ (k : Nat) (D : Int), k ≤ s.size ∧ i = .int .i64 k ∧ d = .int .i64 D ∧ -(k : Int) ≤ D ∧ D ≤ k ∧ Hid ((Plx.com D (s.data.toList.drop k)).map (· + k) = T)) (fun _ i => s.size - (intOf i).toNat)
  case atStart => exact ⟨0, 0, Nat.zero_le _, rfl, rfl, by omega, by omega, by show _ = _; rw [← HT.out]; simp⟩
  case round =>
    obtain ⟨k, D, hk, rfl, rfl, hD0, hD1, H⟩ := hrel
    by_cases hlt : k < s.size
    · have h := H.out
      rw [Plx.com_step _ _ (by intro e; have := congrArg List.length e; rw [List.length_drop, HL.out] at this; simp at this; omega)] at h
      have cP := fun wx => prefix_call s k [40, 58] wx
      have cQ := fun wx => prefix_call s k [58, 41] wx
      have lP : Plx.isCom (s.data.toList.drop k) = true → k + 2 ≤ s.size := fun e => by have := Plx.isCom_len _ e; rw [List.length_drop, HL.out] at this; omega
      have lQ : Plx.comP (s.data.toList.drop k) = true → k + 2 ≤ s.size := fun e => by have := Plx.comP_len _ e; rw [List.length_drop, HL.out] at this; omega
      change ∀ wx, Calls _ _ _ wx fun e w' => e = .returned (.bool (Plx.isCom (s.data.toList.drop k))) ∧ wx = w' at cP
      change ∀ wx, Calls _ _ _ wx fun e w' => e = .returned (.bool (Plx.comP (s.data.toList.drop k))) ∧ wx = w' at cQ
      rw [List.drop_drop, List.drop_drop] at h
      generalize Plx.isCom (s.data.toList.drop k) = P at h cP lP
      generalize Plx.comP (s.data.toList.drop k) = Q at h cQ lQ
      have i0 : (0 : Int) ≤ (k : Int) := by omega
      have i1 : (k : Int) ≤ (s.size : Int) := by omega
      have CP := Kept.mk cP
      have CQ := Kept.mk cQ
      have H1 := Lib.hid h
      clear cP cQ h H
      cases P
      · cases Q
        · clear lP lQ
          go_wp2_with (fail)
          refine (CP.out _).mono ?_; rintro e w' ⟨rfl, rfl⟩
          go_wp2_with (fail)
          refine (CQ.out _).mono ?_; rintro e w' ⟨rfl, rfl⟩
          go_wp2_with (fail)
          go_round
          case rel => exact ⟨k + 1, D, by omega, by go_num, rfl, by omega, by omega, by show _ = _; rw [← H1.out]; simp [Option.map_map, Function.comp_def, Nat.add_assoc, Nat.add_comm 1 k]⟩
          case measure => simp [intOf]; omega
        · have hk2 := lQ rfl
          clear lP lQ
          by_cases hd : D = 1
          · subst hd
            go_wp2_with (fail)
            refine (CP.out _).mono ?_; rintro e w' ⟨rfl, rfl⟩
            go_wp2_with (fail)
            refine (CQ.out _).mono ?_; rintro e w' ⟨rfl, rfl⟩
            go_wp2_with (fail)
            go_ret
            exact ⟨ret_i64 (by rw [← H1.out]; simp [comI]; omega), rfl⟩
          · have hz : (D - 1 == 0) = false := by simp; omega
            go_wp2_with (fail)
            refine (CP.out _).mono ?_; rintro e w' ⟨rfl, rfl⟩
            go_wp2_with (fail)
            refine (CQ.out _).mono ?_; rintro e w' ⟨rfl, rfl⟩
            go_wp2_with (fail)
            go_round
            case rel => exact ⟨k + 2, D - 1, by omega, by go_num, rfl, by omega, by omega, by show _ = _; rw [← H1.out]; simp [hd, Option.map_map, Function.comp_def, Nat.add_assoc, Nat.add_comm 2 k]⟩
            case measure => simp [intOf]; omega
      · have hk2 := lP rfl
        clear lP lQ
        go_wp2_with (fail)
        refine (CP.out _).mono ?_; rintro e w' ⟨rfl, rfl⟩
        go_wp2_with (fail)
        go_round
        case rel => exact ⟨k + 2, D + 1, by omega, by go_num, rfl, by omega, by omega, by show _ = _; rw [← H1.out]; simp [Option.map_map, Function.comp_def, Nat.add_assoc, Nat.add_comm 2 k]⟩
        case measure => simp [intOf]; omega
    · have h1 := H.out
      rw [List.drop_eq_nil_of_le (by rw [HL.out]; omega)] at h1
      have H1 : Hid (T = none) := by show T = _; rw [← h1]; rfl
      clear h1 H
      go_wp2
      go_ret
      exact ⟨ret_i64 (by rw [H1.out]; rfl), rfl⟩

/-- a token as a value -/
def tokVal (t : Plx.Tok) (a : Nat) : Value := .agg #[.int .u8 t.1, .string ⟨t.2.1.toArray⟩, .int .i64 t.2.2, .int .i64 a]
def resV : Except Nat (Plx.Tok × Nat) → Value
  | .error e => .tuple #[.agg #[.int .u8 0, .string ⟨#[]⟩, .int .i64 0, .int .i64 0], .int .i64 0, .int .i64 e]
  | .ok x => .tuple #[tokVal x.1 0, .int .i64 x.2, .int .i64 0]
theorem info_set : (Tryz.prog.info? 90).map (fun i => (i.zero, i.size)) = some (some (.agg (Array.replicate 256 (.bool false))), 256) := by kernel_rfl
theorem bcell {W w1 : World} (hb : Below W.heap.size W w1) : (∀ b o, b < W.heap.size → w1.cell? ⟨b, o, none⟩ = W.cell? ⟨b, o, none⟩) ∧ (∀ b o, b < W.heap.size → w1.frozen? ⟨b, o, none⟩ = W.frozen? ⟨b, o, none⟩) :=
  ⟨fun b o h => hb.cell (p := ⟨b, o, none⟩) h, fun b o h => hb.frozen (p := ⟨b, o, none⟩) h⟩
/-- the length of a text whose head of such bytes is cut off -/
theorem trim_len (p : UInt8 → Bool) (l : List UInt8) : (l.dropWhile p).length + (l.takeWhile p).length = l.length := by
  have h := congrArg List.length (List.takeWhile_append_dropWhile (p := p) (l := l))
  rw [List.length_append] at h
  omega
theorem digs_fun : (fun c : UInt8 => List.contains [48, 49, 50, 51, 52, 53, 54, 55, 56, 57] c) = Plx.isDig := by
  funext c
  have h : ∀ n : Fin 256, List.contains [48, 49, 50, 51, 52, 53, 54, 55, 56, 57] (UInt8.ofNat n.val) = Plx.isDig (UInt8.ofNat n.val) := by decide +kernel
  have := h ⟨c.toNat, c.toNat_lt⟩
  simpa using this
theorem digits_call (s : ByteArray) (w : World) : Calls Tryz.prog 15 #[.string s, .string ⟨#[48, 49, 50, 51, 52, 53, 54, 55, 56, 57]⟩] w fun e w' => ∃ x : ByteArray, e = .returned (.string x) ∧ x.size + Plx.digN s.data.toList = s.size ∧ Below w.heap.size w w' := by
  refine (Any.strings_TrimLeft_laid Tryz.lays161 info_set s ⟨#[48, 49, 50, 51, 52, 53, 54, 55, 56, 57]⟩ w (by decide) (ascii_of_all (by decide))).mono fun e w' ⟨he, hb⟩ => ⟨_, he, ?_, hb⟩
  have h := trim_len Plx.isDig s.data.toList
  rw [size_len] at h
  rw [← digs_fun] at h
  unfold Plx.digN
  rw [← digs_fun]
  exact h
theorem name_none (s : ByteArray) (w : World) (hs : s.size ≤ 4611686018427387904) (ht : Wch.Env w) (h : Plx.nameN s.data.toList = 0) :
    Calls Tryz.prog 40 #[.string s] w fun e w' => e = .returned (.string ⟨#[]⟩) ∧ Below w.heap.size w w' := by
  have h1 := name_any' s w hs ht
  rw [h, List.take_zero] at h1
  exact h1
/-- a text that is not empty -/
def Some' (x : ByteArray) : Prop := x.toList ≠ []
theorem name_some (s : ByteArray) (w : World) (hs : s.size ≤ 4611686018427387904) (ht : Wch.Env w) (h : Plx.nameN s.data.toList ≠ 0) :
    Calls Tryz.prog 40 #[.string s] w fun e w' => ∃ x : ByteArray, e = .returned (.string x) ∧ x.data.toList = s.data.toList.take (Plx.nameN s.data.toList) ∧ x.size = Plx.nameN s.data.toList ∧ x.toList.isEmpty = false ∧ Below w.heap.size w w' := by
  refine (name_any' s w hs ht).mono fun e w' ⟨he, hb⟩ => ⟨_, he, by simp, ?_, ?_, hb⟩
  · have := Plx.nameN_le s.data.toList
    rw [← size_len]
    simp only [List.length_take]
    omega
  · rw [ByteArray.toList_eq]
    have hle := Plx.nameN_le s.data.toList
    cases hc : s.data.toList with
    | nil => rw [hc] at h hle; simp at hle; exact absurd hle h
    | cons c r =>
      obtain ⟨n, hn⟩ : ∃ n, Plx.nameN (c :: r) = n + 1 := ⟨Plx.nameN (c :: r) - 1, by rw [hc] at h; omega⟩
      rw [hn]
      rfl
theorem size_from (s : ByteArray) (d : Nat) : (s.extract d s.size).size = s.size - d := by
  have h := congrArg List.length (Lib.extract_to_end s d)
  rw [size_len, List.length_drop, size_len] at h
  exact h
theorem below_tok {w w1 : World} {o : Obj} (h : Below (w.alloc o).heap.size (w.alloc o) w1) : Below w.heap.size w w1 := ((Below.refl _ _).alloc (Nat.le_refl _) _).trans (h.mono (by simp))
theorem set4 {w w1 : World} (h : Below w.heap.size w w1) {a b c d : Value} : Below w.heap.size w ((((w1.setCell ⟨w.heap.size, 0, none⟩ a).setCell ⟨w.heap.size, 1, none⟩ b).setCell ⟨w.heap.size, 2, none⟩ c).setCell ⟨w.heap.size, 3, none⟩ d) :=
  (((h.setCell (by simp) _).setCell (by simp) _).setCell (by simp) _).setCell (by simp) _
set_option maxHeartbeats 1000000 in
theorem whole_any (s : ByteArray) (w : World) (hs : s.size ≤ 281474976710656) (ht : Env w) :
    Calls Tryz.prog 38 #[.string s] w fun e w' => e = .returned (resV (Plx.wholeL s.data.toList)) ∧ Below w.heap.size w w' := by
  have hle := Plx.digN_le s.data.toList
  rw [size_len] at hle
  generalize hR : resV (Plx.wholeL s.data.toList) = R
  have HR := Kept.mk hR
  clear hR
  have cD := fun wx => digits_call s wx
  generalize hd : Plx.digN s.data.toList = d at cD hle
  have HD := Kept.mk hd
  have HT := Kept.mk ht
  have CD := Kept.mk cD
  clear hd ht cD
  have i0 : (0 : Int) ≤ (d : Int) := by omega
  have i1 : (d : Int) ≤ (s.size : Int) := by omega
  go_enter Tryz.func38, Tryz.ntmps38
  go_wp2_with (fail)
  refine (CD.out _).mono ?_; rintro e w1 ⟨x, rfl, hx, hb1⟩
  have hx1 : (s.size : Int) - (x.size : Int) = (d : Int) := by omega
  have HX := Kept.mk hx
  clear hx
  go_wp2_with (fail)
  have hsz := size_from s d
  by_cases hn : Plx.nameN (s.data.toList.drop d) = 0
  · have cN := fun wx hx => name_none (s.extract d s.size) wx (by omega) hx (by rw [Lib.extract_to_end]; exact hn)
    have hT : resV (Plx.wholeL s.data.toList) = resV (match Lib.parseIntB 64 (s.data.toList.take d) with | .ok v => .ok ((2, [], v), d) | _ => .error 251) := by
      unfold Plx.wholeL
      rw [HD.out, if_neg (by simpa using hn)]
      rfl
    have hx0 : (s.extract 0 d).data.toList = s.data.toList.take d := by rw [Lib.extract_data, List.drop_zero, Nat.sub_zero]
    have hs0 : (s.extract 0 d).size = d := by rw [← size_len, hx0, List.length_take, size_len]; omega
    have cP := fun wx hx => parse_any (s.extract 0 d) wx (by omega) hx
    rw [hx0] at cP
    have HR2 := Kept.mk (HR.out.symm.trans hT)
    clear hT hn hx0
    have CN := Kept.mk cN
    clear cN
    refine (CN.out _ (HT.out.ch.below ((Below.refl _ _).alloc (Nat.le_refl _) _ |>.trans (hb1.mono (by simp))))).mono ?_; rintro e w2 ⟨rfl, hb2⟩
    have g2 := below_any hb1 hb2
    clear hb1 hb2
    cases hp : Lib.parseIntB 64 (s.data.toList.take d) with
    | ok v =>
      rw [hp] at cP
      obtain ⟨v0, v1⟩ := parse_range hp
      have CP := Kept.mk cP
      rw [hp] at HR2
      clear cP hp
      go_wp2_with (fail)
      refine (CP.out _ (HT.out.below ((Below.refl _ _).alloc (Nat.le_refl _) _ |>.trans (g2.mono (by simp))))).mono ?_; rintro e w3 ⟨hb3, rfl⟩
      have g3 := below_any g2 hb3
      obtain ⟨hc, hf⟩ := bcell g3
      have hz := g3.size
      clear hb3 g2
      go_wp2_with (fail)
      refine bodyPost_ret (v := resV (.ok ((2, [], v), d))) (by simp [results, Tryz.results38, go_sem, hc, resV, tokVal]) rfl ⟨by rw [HR2.out], ?_⟩
      exact set4 (below_tok g3)
    | range =>
      rw [hp] at cP
      have CP := Kept.mk cP
      rw [hp] at HR2
      clear cP hp
      go_wp2_with (fail)
      refine (CP.out _ (HT.out.below ((Below.refl _ _).alloc (Nat.le_refl _) _ |>.trans (g2.mono (by simp))))).mono ?_; rintro e w3 ⟨hb3, n3, N3, rfl⟩
      have g3 := below_any g2 hb3
      obtain ⟨hc, hf⟩ := bcell g3
      have hz := g3.size
      clear hb3 g2
      go_wp2_with (fail)
      refine bodyPost_ret (v := resV (.error 251)) (by simp [results, Tryz.results38, go_sem, hc, resV]) rfl ⟨by rw [HR2.out], ?_⟩
      exact set4 (below_tok g3)
    | _ =>
      rw [hp] at cP
      have CP := Kept.mk cP
      rw [hp] at HR2
      clear cP hp
      go_wp2_with (fail)
      refine (CP.out _ (HT.out.below ((Below.refl _ _).alloc (Nat.le_refl _) _ |>.trans (g2.mono (by simp))))).mono ?_; rintro e w3 ⟨hb3, n3, N3, rfl⟩
      have g3 := below_any g2 hb3
      obtain ⟨hc, hf⟩ := bcell g3
      have hz := g3.size
      clear hb3 g2
      go_wp2_with (fail)
      refine bodyPost_ret (v := resV (.error 251)) (by simp [results, Tryz.results38, go_sem, hc, resV]) rfl ⟨by rw [HR2.out], ?_⟩
      exact set4 (below_tok g3)
  · have cN := fun wx hx => name_some (s.extract d s.size) wx (by omega) hx (by rw [Lib.extract_to_end]; exact hn)
    have HR2 : Kept (R = resV (.error 220)) := ⟨by rw [← HR.out]; unfold Plx.wholeL; rw [HD.out, if_pos hn]⟩
    have CN := Kept.mk cN
    clear cN hn
    refine (CN.out _ (HT.out.ch.below ((Below.refl _ _).alloc (Nat.le_refl _) _ |>.trans (hb1.mono (by simp))))).mono ?_; rintro e w2 ⟨y, rfl, hy1, hy2, hy3, hb2⟩
    have g3 := below_any hb1 hb2
    clear hb1 hb2 hy1 hy2
    obtain ⟨hc, hf⟩ := bcell g3
    have hz := g3.size
    go_wp2_with (fail)
    refine bodyPost_ret (v := resV (.error 220)) (by simp [results, Tryz.results38, go_sem, hc, resV]) rfl ⟨by rw [HR2.out], ?_⟩
    exact set4 (below_tok g3)
end Go.Proofs.YtfamljigcffngaaGreatDoor.Wlx
