/- The walk over LexSpells. -/
import Derived.Test.YtfamljigcffngaaDoorLexRefC
namespace Go.Proofs.YtfamljigcffngaaDoor.Wlx
open Go Go.RowKit Go.Proofs.YtfamljigcffngaaDoor.Wch

theorem bne_of {N : Int} {z : Bool} (h : (N == 0) = z) : (N != 0) = !z := by rw [bne, h]
theorem refSpell_any (k : Nat) (x : ByteArray) (N A : Int) (w : World) (hx : x.size ≤ 65536) (h1 : N ≤ 9223372036854775807) :
    Calls Tryd.prog 8 #[.agg #[.int .u8 k, .string x, .int .i64 N, .int .i64 A]] w fun e w' => e = .returned (spR (Plx.spellL (k, x.data.toList, N))) ∧ Below w.heap.size w w' := by
  have hlen : x.data.toList.length ≤ 65536 := by rw [size_len]; exact hx
  by_cases e2 : k = 2
  · subst e2
    rw [sl2]
    by_cases hc : x.data.toList = []
    · by_cases hp : 0 ≤ N
      · refine (ref_2p x N A w (by rw [ByteArray.toList_eq]; exact hc) hp h1 _ rfl).mono fun e w' ⟨he, hb⟩ => ⟨?_, hb⟩
        rw [he, if_pos ⟨hp, hc⟩]
        rfl
      · refine (ref_2n x N A w (by rw [ByteArray.toList_eq]; exact hc) (by omega)).mono fun e w' ⟨he, hb⟩ => ⟨?_, hb⟩
        rw [he, if_neg fun h => hp h.1]
        rfl
    · refine (ref_text2 x N A w (by rw [ByteArray.toList_eq]; simpa using hc)).mono fun e w' ⟨he, hb⟩ => ⟨?_, hb⟩
      rw [he, if_neg fun h => hc h.2]
      rfl
  cases hz : (N == 0) with
  | false =>
    have hz' := bne_of hz
    rw [beq_eq_false_iff_ne] at hz
    have hs : Plx.spellL (k, x.data.toList, N) = none := by
      unfold Plx.spellL
      simp only [hz, and_false, if_false, e2, ite_self]
    rw [hs]
    exact ref_num k x N A w (by simp; omega) hz'
  | true =>
    have hz' := bne_of hz
    by_cases e0 : k = 0
    · subst e0
      rw [sl0]
      rw [beq_iff_eq] at hz
      by_cases hc : x.data.toList = []
      · refine (ref_0 x N A w hz' (by rw [ByteArray.toList_eq]; exact hc)).mono fun e w' ⟨he, hb⟩ => ⟨?_, hb⟩
        rw [he, if_pos ⟨hc, hz⟩]
        rfl
      · refine (ref_text0 x N A w hz' (by rw [ByteArray.toList_eq]; simpa using hc)).mono fun e w' ⟨he, hb⟩ => ⟨?_, hb⟩
        rw [he, if_neg fun h => hc h.1]
        rfl
    by_cases e1 : k = 1
    · subst e1
      refine (ref_1 x N A w (by omega) hz' _ rfl).mono fun e w' ⟨he, hb⟩ => ⟨?_, hb⟩
      have h := sp_if (Pch.nameL x.data.toList) true N x x.data.toList hz rfl
      rw [Bool.and_true] at h
      rw [he]
      exact h
    by_cases e3 : k = 3
    · subst e3
      rw [sl3]
      rw [beq_iff_eq] at hz
      cases hc : Pch.textsL x.data.toList
      · refine (ref_3n x N A w (by omega) hz' hc).mono fun e w' ⟨he, hb⟩ => ⟨?_, hb⟩
        rw [he, if_neg (by simp)]
        rfl
      · refine (ref_3 x N A w hx hz' hc).mono fun e w' ⟨he, hb⟩ => ⟨?_, hb⟩
        rw [he, if_pos ⟨rfl, hlen, hz⟩]
        rfl
    by_cases e4 : k = 4
    · subst e4
      refine (ref_4 x N A w (by omega) hz' _ rfl).mono fun e w' ⟨he, hb⟩ => ⟨?_, hb⟩
      have h := sp_if (Pch.nameL x.data.toList) true N ((⟨#[36]⟩ : ByteArray) ++ x) (36 :: x.data.toList) hz (by rw [Joins.data_append]; rfl)
      rw [Bool.and_true] at h
      rw [he]
      exact h
    by_cases e5 : k = 5
    · subst e5
      refine (ref_5 x N A w hz' _ rfl).mono fun e w' ⟨he, hb⟩ => ⟨?_, hb⟩
      have h := sp_if (decide (x.data.toList ∈ Plx.signsL)) true N x x.data.toList hz rfl
      rw [Bool.and_true] at h
      rw [he, h, sl5]
      congr 2
      simp
    · rw [sl6 k _ _ e0 e1 e2 e3 e4 e5]
      exact ref_6 k x N A w hz' (by simp; omega) (by simp; omega) (by simp; omega) (by simp; omega) (by simp; omega) (by simp; omega) (by simp; omega)
theorem spR_shape (r : Option (List UInt8)) : ∃ (a : ByteArray) (b : Bool), spR r = .tuple #[.string a, .bool b] := by
  cases r with
  | none => exact ⟨_, _, rfl⟩
  | some l => exact ⟨_, _, rfl⟩
set_option maxRecDepth 100000 in
set_option maxHeartbeats 1000000 in
theorem law_spells (k : Nat) (x : ByteArray) (N A : Int) (w : World) (ht : Env w) (h0 : -9223372036854775808 ≤ N) (h1 : N ≤ 9223372036854775807) (hxm : x.size ≤ 9223372036854775807) :
    Calls Tryd.prog 3 #[.agg #[.int .u8 k, .string x, .int .i64 N, .int .i64 A]] w fun e w' => e = .returned (.bool true) ∧ Below w.heap.size w w' := by
  have HT := Kept.mk ht
  clear ht
  by_cases hbig : 20000 < x.size
  · have hbig' : (20000 : Int) < (x.size : Int) := by omega
    go_enter Tryd.func3, Tryd.ntmps3
    go_wp2_with (fail)
    refine (awake_any _ (HT.out.below (box_below _ _))).mono ?_; rintro e w2 ⟨rfl, hb2⟩
    have g2 := Kept.mk (below_any (box_below _ _) hb2)
    go_wp2_with (fail)
    go_ret
    exact ⟨rfl, g2.out⟩
  have hbig' : ¬ (20000 : Int) < (x.size : Int) := by omega
  have cP := fun wx hx => spell_any k x N A wx (by omega) hx h0 h1
  have cR := fun wx => refSpell_any k x N A wx (by omega) h1
  obtain ⟨a, b, hab⟩ := spR_shape (Plx.spellL (k, x.data.toList, N))
  rw [hab] at cP cR
  have CP := Kept.mk cP
  have CR := Kept.mk cR
  clear cP cR hab h0 h1
  go_enter Tryd.func3, Tryd.ntmps3
  go_wp2_with (fail)
  have hb0 := box_below w (.cells #[.int .u8 k, .string x, .int .i64 N, .int .i64 A] 24)
  refine (CP.out _ (HT.out.below hb0)).mono ?_; rintro e w2 ⟨rfl, hb2⟩
  obtain ⟨c0, c1, c2, c3⟩ : w2.cell? ⟨w.heap.size, 0, none⟩ = some (.int .u8 k) ∧ w2.cell? ⟨w.heap.size, 1, none⟩ = some (.string x) ∧ w2.cell? ⟨w.heap.size, 2, none⟩ = some (.int .i64 N) ∧ w2.cell? ⟨w.heap.size, 3, none⟩ = some (.int .i64 A) := by
    refine ⟨cell_keep hb2 ?_, cell_keep hb2 ?_, cell_keep hb2 ?_, cell_keep hb2 ?_⟩ <;> (rw [World.cell?_alloc_new]; rfl)
  have g2 := Kept.mk (below_any hb0 hb2)
  clear hb0 hb2
  go_wp2_with (fail)
  refine (CR.out _).mono ?_; rintro e w3 ⟨rfl, hb3⟩
  have g3 := Kept.mk (below_any g2.out hb3)
  clear hb3 c0 c1 c2 c3
  go_wp2_with (fail)
  refine (awake_any _ (HT.out.below g3.out)).mono ?_; rintro e w4 ⟨rfl, hb4⟩
  have g4 := Kept.mk (below_any g3.out hb4)
  go_wp2_with (fail)
  go_ret
  exact ⟨rfl, g4.out⟩
end Go.Proofs.YtfamljigcffngaaDoor.Wlx
