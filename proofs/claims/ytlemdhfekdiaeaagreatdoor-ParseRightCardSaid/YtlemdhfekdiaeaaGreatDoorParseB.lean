/- The program's parser: a name, what stands ahead of an end. -/
import Derived.Test.YtlemdhfekdiaeaaGreatDoorParseA
import Derived.Lib.IndexLaws
namespace Go.Proofs.YtlemdhfekdiaeaaGreatDoor.Wps
open Go Go.RowKit Go.Proofs.YtlemdhfekdiaeaaGreatDoor.Kb Go.Proofs.YtlemdhfekdiaeaaGreatDoor.Wch

/-- a way of reading that hands back a value -/
def WaysV {α : Type} (B b : Nat) (s : ByteArray) (x : List Value) (w : World) (val : α → Value) (o : Except Ppa.Bs (α × Ppa.Bs)) (e : Ending) (w' : World) : Prop :=
  w.grownBy w' (some b) ∧ match o with
    | .ok (v, r) => e = .returned (val v) ∧ Pa B b s x r w'
    | .error r => Gone (s.size - r.length) e ∧ r.length ≤ s.size
def strV (l : Ppa.Bs) : Value := .string ⟨l.toArray⟩
def nameO (r : Ppa.Bs) : Except Nat Nat → Except Ppa.Bs (Ppa.Bs × Ppa.Bs)
  | .ok k => .ok (r.take k, r.drop k)
  | .error k => .error (r.drop k)
theorem nameM_eq {r : Ppa.Bs} (h : Pch.startB (Ppa.peek r) = true) : Ppa.nameM r = nameO r (Ppa.nameF r.length 0 r) := by
  unfold Ppa.nameM
  rw [if_pos h]
  cases Ppa.nameF r.length 0 r <;> rfl
theorem nameF_step (f k : Nat) (r : Ppa.Bs) (h : Pch.nameB (Ppa.peek r) = true) : Ppa.nameF (f + 1) k r = if 100 < k + (Lib.decodeL r).2 then .error k else Ppa.nameF f (k + (Lib.decodeL r).2) (Ppa.skip r) := by
  rw [Ppa.nameF, if_pos h]
theorem nameF_end (f k : Nat) (r : Ppa.Bs) (h : Pch.nameB (Ppa.peek r) = false) : Ppa.nameF f k r = .ok k := by
  cases f with
  | zero => rfl
  | succ f => rw [Ppa.nameF, if_neg (by simp [h])]
theorem name_ne {r : Ppa.Bs} (h : Pch.nameB (Ppa.peek r) = true) : r ≠ [] := by
  intro e
  subst e
  revert h
  decide
theorem ret_str {a b : ByteArray} (h : a = b) : Ending.returned (.string a) = .returned (.string b) := by rw [h]
theorem extract_part (s : ByteArray) (a n : Nat) : s.extract a (a + n) = ⟨((s.data.toList.drop a).take n).toArray⟩ := by
  have h := Lib.extract_data s a (a + n)
  rw [show a + n - a = n by omega] at h
  rw [← h]
set_option maxRecDepth 100000 in
set_option maxHeartbeats 2000000 in
theorem name_r {B b : Nat} {s : ByteArray} {x : List Value} {r : Ppa.Bs} {w : World} (h : Pa B b s x r w) :
    Calls Tryz.prog 79 #[.pointer (some ⟨b, 0, none⟩)] w fun e w' => WaysV B b s x w strV (Ppa.nameM r) e w' := by
  have hs9 := h.small
  have hdr := h.drop
  have hll := h.len
  obtain ⟨k0, hk0, c1⟩ := h.cell
  have i0 : (0 : Int) ≤ (k0 : Int) := by omega
  have i1 : (k0 : Int) ≤ 65536 := by omega
  cases hst : Pch.startB (Ppa.peek r) with
  | false =>
    have hM : Ppa.nameM r = .error r := by unfold Ppa.nameM; rw [if_neg (by simp [hst])]
    rw [hM]
    have HST := Kept.mk hst
    clear hM hst
    go_enter Tryz.func79, Tryz.ntmps79
    go_wp2_with (first | (go_at_call 77; refine (peek_r h).mono ?_; rintro e w1 ⟨rfl, hb1⟩; have H1 := h.below hb1; have G1 := Kept.mk hb1; clear hb1) | (go_at_call 115; refine (start_any (Ppa.peek r) w1 H1.ev.ev.env.1).mono ?_; rintro e w2 ⟨rfl, hb2⟩; rw [HST.out]; have H2 := H1.below hb2; have G2 := Kept.mk (G1.out.trans (hb2.mono G1.out.size)); clear hb2) | (go_at_call 44; refine (no_r H2).mono ?_; rintro e w3 ⟨rfl, rfl⟩))
    exact ⟨rfl, grown_of_below G2.out _, rfl, H2.len⟩
  | true =>
    rw [nameM_eq hst]
    generalize hN : Ppa.nameF r.length 0 r = N
    have HST := Kept.mk hst
    have HN := Kept.mk hN
    clear hst hN
    go_enter Tryz.func79, Tryz.ntmps79
    go_wp2_with (first | (go_at_call 77; refine (peek_r h).mono ?_; rintro e w1 ⟨rfl, hb1⟩; have H1 := h.below hb1; have G1 := Kept.mk hb1; clear hb1) | (go_at_call 115; refine (start_any (Ppa.peek r) w1 H1.ev.ev.env.1).mono ?_; rintro e w2 ⟨rfl, hb2⟩; rw [HST.out]; have H2 := H1.below hb2; have G2 := Kept.mk (grown_of_below (G1.out.trans (hb2.mono G1.out.size)) (some b)); clear hb2))
    go_loopg [4] r.length (fun g _ wx => ∃ k : Nat, k ≤ r.length ∧ Pa B b s x (r.drop k) wx ∧ Kept (w.grownBy wx (some b)) ∧ Kept (Ppa.nameF g k (r.drop k) = N) ∧ r.length - k ≤ g ∧ k ≤ 100)
    case atStart => exact ⟨0, by omega, H2, G2, HN, by omega, by omega⟩
    case round =>
      obtain ⟨k, hk, hP, G, HE, hfu, hk100⟩ := hrel
      have hlr : (r.drop k).length = r.length - k := List.length_drop
      cases hnb : Pch.nameB (Ppa.peek (r.drop k)) with
      | false =>
        have HX : Kept (N = .ok k) := ⟨HE.out.symm.trans (nameF_end _ _ _ hnb)⟩
        have HNB := Kept.mk hnb
        clear hnb
        go_wp2_with (first | (go_at_call 77; refine (peek_r hP).mono ?_; rintro e w3 ⟨rfl, hb3⟩; have H3 := hP.below hb3; have G3 := Kept.mk hb3; clear hb3) | (go_at_call 116; refine (name_any (Ppa.peek (r.drop k)) w3 H3.ev.ev.env.1).mono ?_; rintro e w4 ⟨rfl, hb4⟩; rw [HNB.out]; have H4 := H3.below hb4; have G4 := Kept.mk (grown_of_below (G3.out.trans (hb4.mono G3.out.size)) (some b)); clear hb4; obtain ⟨k1, hk1, d1⟩ := H4.cell))
        have bx0 := beh_cell H4.row.c0
        have bx1 := beh_cell d1
        have i2 : (k0 : Int) ≤ (k1 : Int) := by omega
        have i3 : (k1 : Int) ≤ (s.size : Int) := by omega
        refine wp_region_beh (by kernel_rfl) (by kernel_rfl) ?_
        repeat
          (refine Qw_step (fun K hK => ?_)
           go_simp
           first
             | (refine hK _ ?_; clear hK K)
             | (apply Exists.intro
                refine ⟨fun _ => ?_, hK _ ?_⟩
                (fail)
                clear hK K))
        refine Qw_nil ?_
        rintro w5 ⟨⟨_, hb5⟩, rfl⟩
        have H5 := H4.below hb5
        have G5 := Kept.mk (grown_of_below hb5 (some b))
        clear bx0 bx1 hb5
        go_wp2
        go_ret
        refine ⟨G.out.trans (G4.out.trans G5.out), ?_⟩
        rw [HX.out]
        obtain rfl : k1 = k0 + k := by omega
        refine ⟨ret_str ?_, H5⟩
        rw [extract_part, show k0 = s.size - r.length by omega, hdr]
      | true =>
        have hne := name_ne hnb
        have hpos := List.length_pos_iff.2 hne
        have hd1 := Lib.decodeL_width (r.drop k)
        have hd2 := Lib.decodeL_le (r.drop k) hne
        obtain ⟨g, rfl⟩ : ∃ g, gk = g + 1 := ⟨gk - 1, by omega⟩
        have hS := nameF_step g k (r.drop k) hnb
        have hsk : Ppa.skip (r.drop k) = r.drop (k + (Lib.decodeL (r.drop k)).2) := by unfold Ppa.skip; rw [List.drop_drop]
        generalize (Lib.decodeL (r.drop k)).2 = d at hS hsk hd1 hd2
        have h1 := HE.out
        rw [hS, hsk] at h1
        have HSK := Kept.mk hsk
        have HNB := Kept.mk hnb
        have l2 : (r.drop (k + d)).length = r.length - (k + d) := List.length_drop
        by_cases hbig : 100 < k + d
        · rw [if_pos hbig] at h1
          have HX : Kept (N = .error k) := ⟨h1.symm⟩
          clear hnb h1 hS hsk HE
          go_wp2_with (first | (go_at_call 77; refine (peek_r hP).mono ?_; rintro e w3 ⟨rfl, hb3⟩; have H3 := hP.below hb3; have G3 := Kept.mk hb3; clear hb3) | (go_at_call 116; refine (name_any (Ppa.peek (r.drop k)) w3 H3.ev.ev.env.1).mono ?_; rintro e w4 ⟨rfl, hb4⟩; rw [HNB.out]; have H4 := H3.below hb4; have G4 := Kept.mk (grown_of_below (G3.out.trans (hb4.mono G3.out.size)) (some b)); clear hb4; obtain ⟨k1, hk1, d1⟩ := H4.cell) | (go_at_call 78; refine (next_r H4 hne).mono ?_; rintro e w5 ⟨rfl, hP5, hg5⟩; rw [HSK.out] at hP5; have G5 := Kept.mk (G4.out.trans hg5); clear hg5; obtain ⟨k2, hk2, d2⟩ := hP5.cell; have f2 := hP5.row.unf 1; have j0 : (0 : Int) ≤ (k2 : Int) - (k0 : Int) := (by omega); have j1 : (100 : Int) < (k2 : Int) - (k0 : Int) := (by omega); have j2 : (k2 : Int) ≤ 65536 := (by omega)) | (go_at_call 44; have HP6 := hP5.put (r' := r.drop k) (v := (k1 : Int)) H4.suf (by omega); refine (no_r HP6).mono ?_; rintro e w6 ⟨rfl, rfl⟩))
          exact ⟨rfl, G.out.trans (grown_set G5.out 1 _), by rw [HX.out]; exact ⟨by unfold Gone; rw [hlr], by omega⟩⟩
        · rw [if_neg hbig] at h1
          have H2 := Kept.mk h1
          clear hnb h1 hS hsk HE
          go_wp2_with (first | (go_at_call 77; refine (peek_r hP).mono ?_; rintro e w3 ⟨rfl, hb3⟩; have H3 := hP.below hb3; have G3 := Kept.mk hb3; clear hb3) | (go_at_call 116; refine (name_any (Ppa.peek (r.drop k)) w3 H3.ev.ev.env.1).mono ?_; rintro e w4 ⟨rfl, hb4⟩; rw [HNB.out]; have H4 := H3.below hb4; have G4 := Kept.mk (grown_of_below (G3.out.trans (hb4.mono G3.out.size)) (some b)); clear hb4; obtain ⟨k1, hk1, d1⟩ := H4.cell) | (go_at_call 78; refine (next_r H4 hne).mono ?_; rintro e w5 ⟨rfl, hP5, hg5⟩; rw [HSK.out] at hP5; have G5 := Kept.mk (G4.out.trans hg5); clear hg5; obtain ⟨k2, hk2, d2⟩ := hP5.cell; have j0 : (0 : Int) ≤ (k2 : Int) - (k0 : Int) := (by omega); have j1 : ¬ (100 : Int) < (k2 : Int) - (k0 : Int) := (by omega); have j2 : (k2 : Int) ≤ 65536 := (by omega)))
          go_roundg g
          case measure => omega
          case rel => exact ⟨k + d, by omega, hP5, ⟨G.out.trans G5.out⟩, H2, by omega, by omega⟩
theorem hasP (x : UInt8) (t e : Ppa.Bs) : Lib.hasPrefix (x :: t) e = e.isPrefixOf (x :: t) := rfl
theorem index_lo : ∀ (r e : Ppa.Bs), -1 ≤ Lib.index r e
  | [], e => by unfold Lib.index; split <;> decide
  | b :: l, e => by
    have := index_lo l e
    unfold Lib.index
    split
    · decide
    · split
      · decide
      · omega
theorem untilM_index (e : Ppa.Bs) (he : e ≠ []) : ∀ r : Ppa.Bs, Ppa.untilM e r = if Lib.index r e = -1 then none else some (r.take (Lib.index r e).toNat, r.drop ((Lib.index r e).toNat + e.length))
  | [] => by
    rw [show Lib.index [] e = -1 by unfold Lib.index; cases e with | nil => exact absurd rfl he | cons _ _ => rfl, if_pos rfl]
    simp [Ppa.untilM, he]
  | b :: l => by
    have ih := untilM_index e he l
    have hlo := index_lo l e
    unfold Ppa.untilM Lib.index
    rw [hasP]
    by_cases hp : e.isPrefixOf (b :: l) = true
    · rw [if_pos hp, if_pos hp, if_neg (by decide)]
      simp
    · rw [if_neg hp, if_neg hp, ih]
      by_cases h1 : Lib.index l e = -1
      · simp [h1]
      · have h2 : (Lib.index l e == -1) = false := by simpa using h1
        rw [if_neg h1, h2]
        simp only [Bool.false_eq_true, if_false]
        rw [if_neg (show ¬ Lib.index l e + 1 = -1 by omega)]
        have h3 : (Lib.index l e + 1).toNat = (Lib.index l e).toNat + 1 := by omega
        rw [h3, show (Lib.index l e).toNat + 1 + e.length = (Lib.index l e).toNat + e.length + 1 by omega]
        rfl
theorem index_fits (e : Ppa.Bs) : ∀ r : Ppa.Bs, Lib.index r e ≠ -1 → (Lib.index r e).toNat + e.length ≤ r.length
  | [] => by
    unfold Lib.index
    split
    · rename_i h
      have : e = [] := List.isEmpty_iff.1 h
      subst this
      simp
    · intro h; exact absurd rfl h
  | b :: l => by
    have ih := index_fits e l
    have hlo := index_lo l e
    unfold Lib.index
    by_cases hp : e.isPrefixOf (b :: l) = true
    · rw [if_pos hp]
      have := (List.isPrefixOf_iff_prefix.1 hp).length_le
      simp only [List.length_cons] at this ⊢
      intro _
      omega
    · rw [if_neg hp]
      by_cases h1 : Lib.index l e = -1
      · simp [h1]
      · have h2 : (Lib.index l e == -1) = false := by simpa using h1
        rw [h2, if_neg (by simp)]
        intro _
        have := ih h1
        simp only [List.length_cons]
        omega
theorem index_call (s a : ByteArray) (k : Nat) (r : Ppa.Bs) (hd : s.data.toList.drop k = r) (hs : s.size ≤ 65536) (w : World) (he : Ev w) :
    Calls Tryz.prog 118 #[.string (s.extract k s.size), .string a] w fun e w' => e = .returned (.int .i64 (Lib.index r a.data.toList)) ∧ Below w.heap.size w w' := by
  obtain ⟨m, hm⟩ := he.mx
  have h1 := Any.strings_Index Tryz.lays143 (s.extract k s.size) a m w (by rw [ByteArray.size_extract]; omega) hm
  rw [Lib.extract_to_end, hd] at h1
  exact h1.mono fun e w' ⟨he, hw⟩ => ⟨he, by rw [hw]; exact Below.refl _ _⟩
set_option maxRecDepth 100000 in
set_option maxHeartbeats 2000000 in
theorem until_r {B b : Nat} {s : ByteArray} {x : List Value} {r : Ppa.Bs} {w : World} (a : ByteArray) (ha : 0 < a.size) (ha2 : a.size ≤ 100) (h : Pa B b s x r w) :
    Calls Tryz.prog 81 #[.pointer (some ⟨b, 0, none⟩), .string a] w fun e w' => WaysV B b s x w strV (Ppa.untilR a.data.toList r) e w' := by
  have hs9 := h.small
  have hdr := h.drop
  have hll := h.len
  have hev := h.ev.ev
  obtain ⟨k0, hk0, c1⟩ := h.cell
  have hsk : s.size - r.length = k0 := by omega
  rw [hsk] at hdr
  have i0 : (0 : Int) ≤ (k0 : Int) := by omega
  have i1 : (k0 : Int) ≤ (s.size : Int) := by omega
  have i2 : (s.size : Int) ≤ 65536 := by omega
  have bx0 := beh_cell h.row.c0
  have bx1 := beh_cell c1
  have hne : a.data.toList ≠ [] := by intro e; have := size_len a; rw [e] at this; simp at this; omega
  have hfit := index_fits a.data.toList r
  have hlo := index_lo r a.data.toList
  have CI := Kept.mk (fun (y : Beh w) => index_call s a k0 r hdr hs9 y.fin (hev.below y.ok))
  unfold Ppa.untilR
  rw [untilM_index _ hne]
  generalize hI : Lib.index r a.data.toList = I at CI hfit hlo
  rw [size_len] at hfit ⊢
  clear hI hev hne
  by_cases hneg : I = -1
  · subst hneg
    rw [if_pos rfl]
    clear hfit hlo
    go_enter Tryz.func81, Tryz.ntmps81
    go_wp2
    refine wp_region_beh (by kernel_rfl) (by kernel_rfl) ?_
    repeat
      (refine Qw_step (fun K hK => ?_)
       go_simp
       first
         | (refine hK _ ?_; clear hK K)
         | (apply Exists.intro
            refine ⟨fun _ => ?_, hK _ ?_⟩
            (go_at_call 118; exact Calls.beh_of (CI.out _))
            clear hK K))
    refine Qw_nil ?_
    rintro w5 ⟨⟨_, hb5⟩, rfl⟩
    have H5 := h.below hb5
    have G5 := Kept.mk (grown_of_below hb5 (some b))
    have d0 := H5.row.c0
    have d1 := H5.row.c1
    have f1 := H5.row.unf 1
    clear bx0 bx1 hb5
    have HP6 : Pa B b s x [] (w5.setCell ⟨b, 1, none⟩ (.int .i64 (s.size : Int))) := H5.put (List.nil_suffix) (by simp)
    go_wp2_with (go_at_call 44; refine (no_r HP6).mono ?_; rintro e w6 ⟨rfl, rfl⟩)
    exact ⟨rfl, grown_set G5.out 1 _, rfl, by simp⟩
  · rw [if_neg hneg]
    have hf := hfit hneg
    obtain ⟨n, rfl⟩ : ∃ n : Nat, I = (n : Int) := ⟨I.toNat, by omega⟩
    rw [Int.toNat_natCast] at hf ⊢
    clear hfit hneg hlo
    have i3 : (0 : Int) ≤ (n : Int) := by omega
    have i4 : (n : Int) ≤ 65536 := by omega
    have i5 : (0 : Int) ≤ (a.size : Int) := by omega
    have i6 : (a.size : Int) ≤ 100 := by omega
    have i7 : (k0 : Int) + (n : Int) ≤ (s.size : Int) := by omega
    have i8 : (k0 : Int) ≤ (k0 : Int) + (n : Int) := by omega
    go_enter Tryz.func81, Tryz.ntmps81
    go_wp2
    refine wp_region_beh (by kernel_rfl) (by kernel_rfl) ?_
    repeat
      (refine Qw_step (fun K hK => ?_)
       go_simp
       first
         | (refine hK _ ?_; clear hK K)
         | (apply Exists.intro
            refine ⟨fun _ => ?_, hK _ ?_⟩
            (go_at_call 118; exact Calls.beh_of (CI.out _))
            clear hK K))
    refine Qw_nil ?_
    rintro w5 ⟨⟨_, hb5⟩, rfl⟩
    have H5 := h.below hb5
    have G5 := Kept.mk (grown_of_below hb5 (some b))
    have d0 := H5.row.c0
    have d1 := H5.row.c1
    rw [hsk] at d1
    have f1 := H5.row.unf 1
    clear bx0 bx1 hb5
    go_wp2
    go_ret
    refine ⟨grown_set G5.out 1 _, ?_, ?_⟩
    · exact ret_str (by rw [extract_part, hdr])
    · exact H5.put ((List.drop_suffix _ _).trans H5.suf) (by rw [List.length_drop]; omega)
end Go.Proofs.YtlemdhfekdiaeaaGreatDoor.Wps
