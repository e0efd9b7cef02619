/- The walks over spelt and awake (chapter 22). -/
import Derived.Test.YtfamljigcffngaaGreatDoorLexSpell
import Derived.Lib.ItoaLen
namespace Go.Proofs.YtfamljigcffngaaGreatDoor.Wlx
open Go Go.RowKit Go.Proofs.YtfamljigcffngaaGreatDoor.Wch

/-- the slice at A reads as these tokens (nothing is said of an empty one) -/
def RdT (w : World) (A : Option Addr) (l : List (Plx.Tok × Nat)) : Prop :=
  l ≠ [] → ∃ b off, A = some ⟨b, off, none⟩ ∧ ∀ j x, l[j]? = some x → w.cell? ⟨b, off + j * 4, none⟩ = some (.int .u8 x.1.1) ∧ w.cell? ⟨b, off + j * 4 + 1, none⟩ = some (.string ⟨x.1.2.1.toArray⟩) ∧ w.cell? ⟨b, off + j * 4 + 2, none⟩ = some (.int .i64 x.1.2.2) ∧ w.cell? ⟨b, off + j * 4 + 3, none⟩ = some (.int .i64 x.2)
theorem RdT.below {w w' : World} {A : Option Addr} {l : List (Plx.Tok × Nat)} (h : RdT w A l) (hb : Below w.heap.size w w') : RdT w' A l := by
  intro hne
  obtain ⟨b, off, hA, hc⟩ := h hne
  exact ⟨b, off, hA, fun j x hx => ⟨cell_keep hb (hc j x hx).1, cell_keep hb (hc j x hx).2.1, cell_keep hb (hc j x hx).2.2.1, cell_keep hb (hc j x hx).2.2.2⟩⟩
/-- tokens whose texts and numbers are none too great -/
def Fit (l : List (Plx.Tok × Nat)) : Prop := ∀ x ∈ l, x.1.2.1.length ≤ 65536 ∧ -9223372036854775808 ≤ x.1.2.2 ∧ x.1.2.2 ≤ 9223372036854775807
theorem spell_tok (x : Plx.Tok × Nat) (w : World) (hl : x.1.2.1.length ≤ 65536) (h0 : -9223372036854775808 ≤ x.1.2.2) (h1 : x.1.2.2 ≤ 9223372036854775807) (ht : Env w) :
    Calls Tryz.prog 12 #[.agg #[.int .u8 x.1.1, .string ⟨x.1.2.1.toArray⟩, .int .i64 x.1.2.2, .int .i64 x.2]] w fun e w' => e = .returned (spR (Plx.spellL x.1)) ∧ Below w.heap.size w w' := by
  have h := spell_any x.1.1 ⟨x.1.2.1.toArray⟩ x.1.2.2 x.2 w (by rw [← size_len]; simpa using hl) ht h0 h1
  simpa using h
def spellW (t : Plx.Tok) : List UInt8 := (Plx.spellL t).getD [63]
def spellsL (l : List (Plx.Tok × Nat)) : List UInt8 := l.flatMap fun x => spellW x.1 ++ [32]
theorem spellW_len (t : Plx.Tok) (hl : t.2.1.length ≤ 65536) (h0 : -9223372036854775808 ≤ t.2.2) (h1 : t.2.2 ≤ 9223372036854775807) : (spellW t).length ≤ 199990 := by
  obtain ⟨k, x, n⟩ := t
  have hd := Plx.dbl_length x
  have hi := Lib.itoa_length_le n h0 h1
  dsimp only at hl
  unfold spellW Plx.spellL
  dsimp only
  repeat' split
  all_goals simp only [Option.getD_some, Option.getD_none, List.length_cons, List.length_nil, List.length_append]
  all_goals omega
set_option maxRecDepth 100000 in
set_option maxHeartbeats 2000000 in
theorem spelt_any (A : Option Addr) (l : List (Plx.Tok × Nat)) (c : Nat) (w : World) (hr : RdT w A l) (hl : l.length ≤ 100000) (hf : Fit l) (ht : Env w) :
    Calls Tryz.prog 11 #[.slice A l.length c] w fun e w' => e = .returned (.string ⟨(spellsL l).toArray⟩) ∧ Below w.heap.size w w' := by
  have HR := Kept.mk hr
  have HT := Kept.mk ht
  have HF := Kept.mk hf
  clear hr ht hf
  go_enter Tryz.func11, Tryz.ntmps11
  go_wp2
  go_loopw [3, 4] (fun s i wx => ∃ (k : Nat) (y : ByteArray), k ≤ l.length ∧ i = .int .i64 k ∧ s = .string y ∧ y.size ≤ k * 200000 ∧ Below w.heap.size w wx ∧ Hid (y.data.toList = spellsL (l.take k))) (fun _ i _ => l.length - (intOf i).toNat)
  case atStart => exact ⟨0, ⟨#[]⟩, by omega, rfl, rfl, Nat.zero_le _, Below.refl _ _, rfl⟩
  case round =>
    obtain ⟨k, y, hk, rfl, rfl, hys, hb, H⟩ := hrel
    by_cases hlt : k < l.length
    · obtain ⟨x, hx⟩ : ∃ x, l[k]? = some x := ⟨l[k]'hlt, List.getElem?_eq_getElem hlt⟩
      obtain ⟨b, off, rfl, hc⟩ := (HR.out.below hb) (by intro e; subst e; simp at hlt)
      obtain ⟨c0, c1, c2, c3⟩ := hc k x hx
      have i0 : (0 : Int) ≤ (k : Int) := by omega
      have i1 : (k : Int) < (l.length : Int) := by omega
      clear hc
      obtain ⟨f1, f2, f3⟩ := HF.out x (List.mem_of_getElem? hx)
      have hlen := spellW_len x.1 f1 f2 f3
      have cS := fun wx hx' => spell_tok x wx f1 f2 f3 hx'
      have H2 : Hid (spellsL (l.take (k + 1)) = spellsL (l.take k) ++ (spellW x.1 ++ [32])) := by
        show _ = _
        rw [List.take_add_one, hx]
        simp [spellsL]
      clear hx f1 f2 f3
      unfold spellW at hlen H2
      cases hsp : Plx.spellL x.1 with
      | none =>
        rw [hsp] at cS hlen H2
        simp only [spR] at cS
        have CS := Kept.mk cS
        clear hsp cS hlen
        go_wp2_with (fail)
        refine (CS.out _ (HT.out.below hb)).mono ?_; rintro e w2 ⟨rfl, hb2⟩
        have g2 := below_any hb hb2
        clear hb hb2 c0 c1 c2 c3
        have HZ : Kept ((y ++ ⟨#[63]⟩ ++ ⟨#[32]⟩ : ByteArray).size ≤ (k + 1) * 200000) := ⟨by rw [ByteArray.size_append, ByteArray.size_append, show (⟨#[63]⟩ : ByteArray).size = 1 from rfl, show (⟨#[32]⟩ : ByteArray).size = 1 from rfl]; omega⟩
        have z2 : y.size ≤ 100000000000 := by omega
        go_wp2
        go_roundw
        case rel => exact ⟨k + 1, y ++ ⟨#[63]⟩ ++ ⟨#[32]⟩, by omega, by go_num, rfl, HZ.out, g2, by show _ = _; rw [H2.out, Joins.data_append, Joins.data_append, H.out, List.append_assoc]; rfl⟩
        case measure => simp [intOf]; omega
      | some r =>
        rw [hsp] at cS hlen H2
        simp only [spR] at cS
        obtain ⟨v, hv⟩ : ∃ v : ByteArray, v = ⟨r.toArray⟩ := ⟨_, rfl⟩
        rw [← hv] at cS
        have hvs : v.size = r.length := by rw [hv, ← size_len]
        have hvd : v.data.toList = r := by rw [hv]
        have HV := Kept.mk hvd
        have CS := Kept.mk cS
        simp only [Option.getD_some] at hlen
        have z3 : v.size ≤ 199990 := by omega
        clear hsp cS hv hvd hlen hvs
        go_wp2_with (fail)
        refine (CS.out _ (HT.out.below hb)).mono ?_; rintro e w2 ⟨rfl, hb2⟩
        have g2 := below_any hb hb2
        clear hb hb2 c0 c1 c2 c3
        have HZ : Kept ((y ++ v ++ ⟨#[32]⟩ : ByteArray).size ≤ (k + 1) * 200000) := ⟨by rw [ByteArray.size_append, ByteArray.size_append, show (⟨#[32]⟩ : ByteArray).size = 1 from rfl]; omega⟩
        have z2 : y.size ≤ 100000000000 := by omega
        go_wp2
        go_roundw
        case rel => exact ⟨k + 1, y ++ v ++ ⟨#[32]⟩, by omega, by go_num, rfl, HZ.out, g2, by show _ = _; rw [H2.out, Joins.data_append, Joins.data_append, H.out, List.append_assoc, HV.out]; rfl⟩
        case measure => simp [intOf]; omega
    · obtain rfl : k = l.length := by omega
      have h := H.out
      rw [List.take_length] at h
      have H1 := Lib.hid h
      clear h H
      go_wp2
      go_ret
      exact ⟨ret_str (mk_of H1.out), hb⟩

theorem toksC_get : ∀ (l : List (Plx.Tok × Nat)) (j : Nat) (x : Plx.Tok × Nat) (i : Nat), l[j]? = some x → i < 4 → (toksC l)[j * 4 + i]? = (tokC x)[i]?
  | [], j, x, i, h, _ => by simp at h
  | y :: l, 0, x, i, h, hi => by
    simp only [List.getElem?_cons_zero, Option.some.injEq] at h
    subst h
    rw [show toksC (y :: l) = tokC y ++ toksC l from rfl, Nat.zero_mul, Nat.zero_add, List.getElem?_append_left (by simp [tokC]; omega)]
  | y :: l, j + 1, x, i, h, hi => by
    rw [List.getElem?_cons_succ] at h
    rw [show toksC (y :: l) = tokC y ++ toksC l from rfl, List.getElem?_append_right (by simp [tokC]; omega), ← toksC_get l j x i h hi]
    congr 1
    simp [tokC]
    omega
theorem rdt_of_own {w : World} {base g n c : Nat} {l : List (Plx.Tok × Nat)} (h : w.ownsRow base 36 4 (.slice (some ⟨g, 0, none⟩) n c) n (toksC l)) : RdT w (some ⟨g, 0, none⟩) l := by
  intro _
  refine ⟨g, 0, rfl, fun j x hx => ?_⟩
  have hc := fun i u hi (hu : (tokC x)[i]? = some u) => h.cells (g := g) rfl (j * 4 + i) u (by rw [toksC_get l j x i hx hi]; exact hu)
  have ha : ∀ k : Nat, (⟨g, 0, none⟩ : Addr).add k = ⟨g, k, none⟩ := fun k => by unfold Addr.add; split <;> simp_all
  simp only [Nat.zero_add]
  exact ⟨by have := hc 0 _ (by omega) rfl; rwa [ha] at this, by have := hc 1 _ (by omega) rfl; rwa [ha] at this, by have := hc 2 _ (by omega) rfl; rwa [ha] at this, by have := hc 3 _ (by omega) rfl; rwa [ha] at this⟩
theorem scan_ok (s : ByteArray) (l : List (Plx.Tok × Nat)) (w : World) (hs : s.size ≤ 281474976710656) (ht : Env w) (h : Plx.scanL s.data.toList = .ok l) (n : Nat) (hl : l.length = n) (hn : 0 < n) :
    Calls Tryz.prog 6 #[.string s] w fun e w' => ∃ g c, e = .returned (.tuple #[.slice (some ⟨g, 0, none⟩) n c, .agg #[.int .i64 0, .int .i64 0]]) ∧ RdT w' (some ⟨g, 0, none⟩) l ∧ Below w.heap.size w w' := by
  subst hl
  have h1 := scan_any s w hs ht
  rw [h] at h1
  refine h1.mono fun e w' hp => ?_
  obtain ⟨hb, v, he, hown⟩ := hp
  obtain ⟨g, c, rfl, _, _⟩ := hown.form hn
  exact ⟨g, c, he, rdt_of_own hown, hb⟩
theorem scan_bad (s : ByteArray) (a b : Nat) (w : World) (hs : s.size ≤ 281474976710656) (ht : Env w) (h : Plx.scanL s.data.toList = .error (a, b)) :
    Calls Tryz.prog 6 #[.string s] w fun e w' => e = .returned (.tuple #[.slice none 0 0, .agg #[.int .i64 a, .int .i64 b]]) ∧ Below w.heap.size w w' := by
  have h1 := scan_any s w hs ht
  rw [h] at h1
  exact h1.mono fun e w' hp => ⟨hp.2, hp.1⟩
def awakeS : ByteArray := ⟨#[47, 97, 45, 98, 47, 47, 64, 99, 91, 46, 32, 61, 32, 39, 105, 116, 39, 39, 115, 39, 93]⟩
def awakeL : List (Plx.Tok × Nat) := [((5, [47], 0), 0), ((1, [97, 45, 98], 0), 1), ((5, [47, 47], 0), 4), ((5, [64], 0), 6), ((1, [99], 0), 7), ((5, [91], 0), 8), ((5, [46], 0), 9), ((5, [61], 0), 11), ((3, [105, 116, 39, 115], 0), 13), ((5, [93], 0), 20), ((0, [], 0), 21)]
def awakeT : ByteArray := ⟨#[47, 32, 97, 45, 98, 32, 47, 47, 32, 64, 32, 99, 32, 91, 32, 46, 32, 61, 32, 34, 105, 116, 39, 115, 34, 32, 93, 32, 32]⟩
theorem awake_1 : Plx.scanL awakeS.data.toList = .ok awakeL := by kernel_rfl
theorem awake_2 : Plx.scanL (⟨#[97, 32, 33, 32, 98]⟩ : ByteArray).data.toList = .error (220, 2) := by kernel_rfl
theorem awake_3 : (⟨(spellsL awakeL).toArray⟩ : ByteArray) = awakeT := by kernel_rfl
theorem awake_4 : Fit awakeL := by unfold Fit; decide +kernel
set_option maxRecDepth 100000 in
set_option maxHeartbeats 2000000 in
theorem awake_any (w : World) (ht : Env w) : Calls Tryz.prog 5 #[] w fun e w' => e = .returned (.bool true) ∧ Below w.heap.size w w' := by
  have HT := Kept.mk ht
  clear ht
  go_enter Tryz.func5, Tryz.ntmps5
  go_wp2_with (fail)
  refine (scan_ok awakeS awakeL _ (by decide) HT.out awake_1 11 rfl (by decide)).mono ?_; rintro e w1 ⟨g, c, rfl, hr1, hb1⟩
  have R1 := Kept.mk hr1
  have B1 := Kept.mk hb1
  clear hr1 hb1
  go_wp2_with (fail)
  have hb1' := B1.out.alloc B1.out.size (.cells #[.int .i64 0, .int .i64 0] 26)
  refine (scan_bad ⟨#[97, 32, 33, 32, 98]⟩ 220 2 _ (by decide) (HT.out.below hb1') awake_2).mono ?_; rintro e w2 ⟨rfl, hb2⟩
  obtain ⟨_, _, hA, hcell⟩ := R1.out (by decide)
  cases hA
  have c43 := (hcell 10 _ rfl).2.2.2
  clear hcell
  have hb1a : Below w1.heap.size w1 (w1.alloc (.cells #[.int .i64 0, .int .i64 0] 26)) := (Below.refl _ _).alloc (Nat.le_refl _) _
  have f0 : ∀ o, (w2.alloc o).cell? ⟨w1.heap.size, 0, none⟩ = some (.int .i64 0) := fun o => cell_keep ((Below.refl _ _).alloc (Nat.le_refl _) o) (cell_keep hb2 (by rw [World.cell?_alloc_new]; rfl))
  have f1 : ∀ o, (w2.alloc o).cell? ⟨w1.heap.size, 1, none⟩ = some (.int .i64 0) := fun o => cell_keep ((Below.refl _ _).alloc (Nat.le_refl _) o) (cell_keep hb2 (by rw [World.cell?_alloc_new]; rfl))
  have a43 : ∀ o, (w2.alloc o).cell? ⟨g, 43, none⟩ = some (.int .i64 21) := fun o => cell_keep ((Below.refl _ _).alloc (Nat.le_refl _) o) (cell_keep hb2 (cell_keep hb1a c43))
  have R2 := Kept.mk ((R1.out.below hb1a).below hb2)
  have B2 := Kept.mk (below_any hb1' hb2)
  clear c43 hb1a hb2 hb1'
  go_wp2_with (fail)
  have hS := fun wx (h : RdT wx (some ⟨g, 0, none⟩) awakeL) hx => spelt_any (some ⟨g, 0, none⟩) awakeL c wx h (by decide) awake_4 hx
  rw [awake_3] at hS
  have HS := Kept.mk hS
  clear hS
  refine (HS.out _ (R2.out.below ((Below.refl _ _).alloc (Nat.le_refl _) _)) (HT.out.below (B2.out.alloc B2.out.size _))).mono ?_; rintro e w3 ⟨rfl, hb3⟩
  have e0 : w3.cell? ⟨w2.heap.size, 0, none⟩ = some (.int .i64 220) := cell_keep hb3 (by rw [World.cell?_alloc_new]; rfl)
  have e1 : w3.cell? ⟨w2.heap.size, 1, none⟩ = some (.int .i64 2) := cell_keep hb3 (by rw [World.cell?_alloc_new]; rfl)
  have B3 := Kept.mk (below_any (B2.out.alloc B2.out.size _) hb3)
  clear hb3 f0 f1 a43
  unfold awakeT
  go_wp2_with (fail)
  go_ret
  exact ⟨rfl, B3.out⟩
end Go.Proofs.YtfamljigcffngaaGreatDoor.Wlx
