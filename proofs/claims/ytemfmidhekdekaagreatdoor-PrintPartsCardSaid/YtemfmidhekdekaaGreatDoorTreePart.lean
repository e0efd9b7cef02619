/- The walks over Kids, Attributes, the iterator over ancestors, Part (chapter 06). The walk over Part (chapter 06). -/
import Derived.Test.YtemfmidhekdekaaGreatDoorTreeSeq
import Derived.Test.YtemfmidhekdekaaGreatDoorTreeGoB
import Derived.Laws.OwnMore
import Derived.Deep.AppendLies
import Derived.WalkSpells
namespace Go.Proofs.YtemfmidhekdekaaGreatDoor.Wtr
open Go Go.RowKit Go.Shelf Go.Proofs.YtemfmidhekdekaaGreatDoor.Kb Go.Proofs.YtemfmidhekdekaaGreatDoor.Flt
attribute [local go_sem] Oper.semAt_some

/-- a node's children, or attributes: none, where there is no such place -/
def kidsB (l : List Ptr.Nd) (a : Int) (at' : Bool) : List Nat := if placeB l a = true then Ptr.kidsL l a.toNat at' (a.toNat + 1) (Ptr.endN l a.toNat) else []
theorem kids_call (A : Option Addr) (c : Nat) (l : List Ptr.Nd) (q : Nat) (hq : q < l.length) (at' : Bool) (hl : l.length ≤ 100000) (w w1 : World) (hw : w1 = ((w.alloc (.cells #[.slice A l.length c] 23)).alloc (.cells #[.int .i64 (q : Int)] 3)).alloc (.cells #[.bool at'] 4)) (hr : RdN w A l) :
    Calls Tryz.prog 32 #[.func (.func 50) #[] #[.pointer (some ⟨w.heap.size + 1, 0, none⟩), .pointer (some ⟨w.heap.size, 0, none⟩), .pointer (some ⟨w.heap.size + 2, 0, none⟩)]] w1 fun e w' =>
      ∃ v, e = .returned v ∧ w'.ownsRow w.heap.size 3 1 v (Ptr.kidsL l q at' (q + 1) (Ptr.endN l q)).length (ic (Ptr.kidsL l q at' (q + 1) (Ptr.endN l q))) ∧ Below w.heap.size w w' := by
  subst hw
  exact collect_kids A c l q hq at' hl w hr
set_option maxHeartbeats 1000000 in
theorem Kids_any (A : Option Addr) (l : List Ptr.Nd) (c : Nat) (a : Int) (w : World) (hr : RdN w A l) (hl : l.length ≤ 100000) (hf : FitP l) (hE : TEnv w) :
    Calls Tryz.prog 14 #[.slice A l.length c, .int .i64 a] w fun e w' => ∃ v, e = .returned v ∧ w'.ownsRow w.heap.size 3 1 v (kidsB l a false).length (ic (kidsB l a false)) ∧ Below w.heap.size w w' := by
  have cP := place_any A l c a w hr hl hf hE
  have HR := Kept.mk hr
  unfold kidsB
  cases hp : placeB l a with
  | false =>
    rw [hp] at cP
    have CP := Kept.mk cP
    rw [if_neg (by simp)]
    clear cP hr hf hE hp
    go_enter Tryz.func14, Tryz.ntmps14
    go_wp2_with (go_at_call 31; refine CP.out.mono ?_; rintro e w1 ⟨rfl, hb1⟩)
    go_ret
    exact ⟨_, rfl, World.ownsRow_nil _ _ _ _, hb1⟩
  | true =>
    obtain ⟨i, rfl, hi⟩ := place_in hp
    rw [hp] at cP
    have CP := Kept.mk cP
    rw [if_pos rfl, Int.toNat_natCast]
    have cN := fun wx w1 hw hx => kids_call A c l i hi false hl wx w1 hw hx
    have CN := Kept.mk cN
    generalize Ptr.kidsL l i false (i + 1) (Ptr.endN l i) = KL at CN ⊢
    clear cP hr hf hE hp cN
    go_enter Tryz.func14, Tryz.ntmps14
    go_wp2_with (first | (go_at_call 31; refine CP.out.mono ?_; rintro e w1 ⟨rfl, hb1⟩; have B1 := Kept.mk hb1; clear hb1) | (go_at_call 33; refine (kids_any _ _ _ _ _ _).mono ?_; rintro e w2 ⟨rfl, hw2⟩; have W2 := Kept.mk hw2; clear hw2) | (go_at_call 32; refine (CN.out _ _ W2.out (HR.out.below B1.out)).mono ?_; rintro e w3 ⟨v, rfl, hO, hb3⟩))
    go_ret
    exact ⟨_, rfl, own_low hO B1.out.size, B1.out.trans (hb3.mono B1.out.size)⟩
theorem upC_len (l : List Ptr.Nd) : ∀ (f : Nat) (p : Int), (Ptr.upC l f p).length ≤ f
  | 0, _ => by simp [Ptr.upC]
  | f + 1, p => by
    rw [Ptr.upC_at]
    split
    · simp
    · rw [List.length_cons]
      have := upC_len l f (Ptr.par l p.toNat)
      omega
end Go.Proofs.YtemfmidhekdekaaGreatDoor.Wtr
namespace Go.Proofs.YtemfmidhekdekaaGreatDoor.Wtr
open Go Go.RowKit Go.Shelf Go.Proofs.YtemfmidhekdekaaGreatDoor.Kb Go.Proofs.YtemfmidhekdekaaGreatDoor.Flt

/-- a node by another parent -/
def setP (x : Ptr.Nd) (z : Int) : Ptr.Nd := (x.1, x.2.1, x.2.2.1, z)
theorem ndsC_set : ∀ (L : List Ptr.Nd) (k : Nat) (z : Int), k < L.length → (ndsC L).set (k * 4 + 3) (.int .i64 z) = ndsC (L.set k (setP (L.getD k Ptr.nd0) z))
  | [], k, _, h => by simp at h
  | y :: L, 0, z, _ => by
    rw [show ndsC (y :: L) = ndC y ++ ndsC L from rfl, List.set_append_left _ _ (by simp [ndC])]
    rfl
  | y :: L, k + 1, z, h => by
    rw [show ndsC (y :: L) = ndC y ++ ndsC L from rfl, List.set_append_right _ _ (by simp [ndC]; omega), show (k + 1) * 4 + 3 - (ndC y).length = k * 4 + 3 by simp [ndC]; omega, ndsC_set L k z (by simpa using h)]
    rfl
/-- a stretch of nodes, the first k with their parents counted from its start -/
def partK (l : List Ptr.Nd) (i n k : Nat) : List Ptr.Nd := (List.range n).map fun j => (Ptr.kin l (i + j), Ptr.nam l (i + j), Ptr.val l (i + j), if j < k then Ptr.par l (i + j) - i else Ptr.par l (i + j))
theorem partK_len (l : List Ptr.Nd) (i n k : Nat) : (partK l i n k).length = n := by simp [partK]
theorem partK_get (l : List Ptr.Nd) (i n k j : Nat) (h : j < n) : (partK l i n k)[j]? = some (Ptr.kin l (i + j), Ptr.nam l (i + j), Ptr.val l (i + j), if j < k then Ptr.par l (i + j) - i else Ptr.par l (i + j)) := by
  unfold partK
  rw [List.getElem?_map, List.getElem?_range h]
  rfl
theorem partK_step (l : List Ptr.Nd) (i n k : Nat) (h : k < n) : (partK l i n k).set k (setP ((partK l i n k).getD k Ptr.nd0) (Ptr.par l (i + k) - i)) = partK l i n (k + 1) := by
  apply List.ext_getElem?
  intro j
  by_cases hj : j < n
  · rw [partK_get l i n (k + 1) j hj]
    by_cases e : k = j
    · subst e
      rw [List.getElem?_set_self (by rw [partK_len]; exact h), List.getD_eq_getElem?_getD, partK_get l i n k k h, if_pos (show k < k + 1 by omega)]
      rfl
    · rw [List.getElem?_set_ne e, partK_get l i n k j hj]
      by_cases h2 : j < k
      · rw [if_pos h2, if_pos (show j < k + 1 by omega)]
      · rw [if_neg h2, if_neg (show ¬ j < k + 1 by omega)]
  · rw [List.getElem?_eq_none (by simp [partK_len]; omega), List.getElem?_eq_none (by rw [partK_len]; omega)]
/-- a node's subtree as a fragment -/
def partN (l : List Ptr.Nd) (i : Nat) : List Ptr.Nd := (List.range (Ptr.endN l i - i)).map fun j => (Ptr.kin l (i + j), Ptr.nam l (i + j), Ptr.val l (i + j), if j = 0 then -1 else Ptr.par l (i + j) - i)
theorem partN_len (l : List Ptr.Nd) (i : Nat) : (partN l i).length = Ptr.endN l i - i := by simp [partN]
theorem partN_get (l : List Ptr.Nd) (i j : Nat) (h : j < Ptr.endN l i - i) : (partN l i)[j]? = some (Ptr.kin l (i + j), Ptr.nam l (i + j), Ptr.val l (i + j), if j = 0 then -1 else Ptr.par l (i + j) - i) := by
  unfold partN
  rw [List.getElem?_map, List.getElem?_range h]
  rfl
theorem partN_of (l : List Ptr.Nd) (i : Nat) (h : 0 < Ptr.endN l i - i) : (partK l i (Ptr.endN l i - i) (Ptr.endN l i - i)).set 0 (setP ((partK l i (Ptr.endN l i - i) (Ptr.endN l i - i)).getD 0 Ptr.nd0) (-1)) = partN l i := by
  apply List.ext_getElem?
  intro j
  by_cases hj : j < Ptr.endN l i - i
  · rw [partN_get l i j hj]
    by_cases e : 0 = j
    · subst e
      rw [List.getElem?_set_self (by rw [partK_len]; exact h), List.getD_eq_getElem?_getD, partK_get _ _ _ _ _ h, if_pos rfl]
      rfl
    · rw [List.getElem?_set_ne e, partK_get _ _ _ _ _ hj, if_pos hj, if_neg (fun h => e h.symm)]
  · rw [List.getElem?_eq_none (by simp [partK_len]; omega), List.getElem?_eq_none (by rw [partN_len]; omega)]
def partB (l : List Ptr.Nd) (a : Int) : List Ptr.Nd := if placeB l a = true then partN l a.toNat else []
theorem chk_all {l : List Ptr.Nd} {root : Bool} (h : Ptr.chk l root = 0) : Ptr.allB l root l.length = true := by
  unfold Ptr.chk at h
  split at h
  · cases h
  · split at h
    · cases h
    · rename_i h2
      simpa using h2
/-- a place is one of a right tree, or fragment -/
theorem place_good {l : List Ptr.Nd} {a : Int} (h : placeB l a = true) : ∃ root, Ptr.chk l root = 0 := by
  unfold placeB at h
  rw [Bool.and_eq_true, Bool.or_eq_true, beq_iff_eq, beq_iff_eq] at h
  rcases h.2 with h | h
  · exact ⟨true, h⟩
  · exact ⟨false, h⟩
theorem place_rng {l : List Ptr.Nd} {a : Int} (h : placeB l a = true) : Ptr.Rng l l.length ∧ ∀ k, k < l.length → Ptr.openB l k = true := by
  obtain ⟨root, h⟩ := place_good h
  exact ⟨Ptr.allB_rng (chk_all h), fun k hk => Ptr.good_open (Ptr.allB_good (chk_all h) k hk)⟩
theorem rdn_at {w : World} {b off : Nat} {l : List Ptr.Nd} (h : RdN w (some ⟨b, off, none⟩) l) (i n : Nat) (hn : i + n ≤ l.length) : ∀ j u, (ndsC (partK l i n 0))[j]? = some u → w.cell? ((⟨b, off + i * 4, none⟩ : Addr).add j) = some u := by
  intro j u hu
  have hj : j < n * 4 := by
    have := (List.getElem?_eq_some_iff.1 hu).1
    rwa [ndsC_length, partK_len] at this
  have hq : j / 4 < n := by omega
  have hg := ndsC_get _ (j / 4) _ (j % 4) (partK_get l i n 0 (j / 4) hq) (by omega)
  rw [show j / 4 * 4 + j % 4 = j by omega, hu, if_neg (by omega)] at hg
  obtain ⟨d0, d1, d2, d3⟩ := h.cells (i := i + j / 4) (by omega)
  rw [addr_add]
  have h4 : j % 4 = 0 ∨ j % 4 = 1 ∨ j % 4 = 2 ∨ j % 4 = 3 := by omega
  rcases h4 with h4 | h4 | h4 | h4
  · rw [h4] at hg
    rw [show off + i * 4 + j = off + (i + j / 4) * 4 by omega, d0]
    exact hg.symm
  · rw [h4] at hg
    rw [show off + i * 4 + j = off + (i + j / 4) * 4 + 1 by omega, d1]
    exact hg.symm
  · rw [h4] at hg
    rw [show off + i * 4 + j = off + (i + j / 4) * 4 + 2 by omega, d2]
    exact hg.symm
  · rw [h4] at hg
    rw [show off + i * 4 + j = off + (i + j / 4) * 4 + 3 by omega, d3]
    exact hg.symm
theorem clone_got {w w5 : World} {L : List Ptr.Nd} {n : Nat} {v' : Value} {o : Obj} (h0 : 0 < n) (hO : (w.alloc o).ownsRow w.heap.size 32 4 (.slice (some ⟨w.heap.size, 0, none⟩) 0 0) 0 []) (h : w5.ownsRow w.heap.size 32 4 v' (0 + n) ([] ++ ndsC L)) (hg : (w.alloc o).grownBy w5 (Value.ownBlock (.slice (some ⟨w.heap.size, 0, none⟩) 0 0))) :
    ∃ g c', v' = .slice (some ⟨g, 0, none⟩) n c' ∧ Kept (w5.ownsRow w.heap.size 32 4 (.slice (some ⟨g, 0, none⟩) n c') n (ndsC L)) ∧ Kept (Below w.heap.size w w5) := by
  rw [Nat.zero_add, List.nil_append] at h
  obtain ⟨g, c', rfl⟩ := Joins.ownsRow_form h h0
  exact ⟨g, c', rfl, ⟨h⟩, ⟨Below.grown ((Below.refl w.heap.size w).alloc (Nat.le_refl _) _) hg (by simp) (fun q hq => (hO.lt q hq).1)⟩⟩
set_option maxRecDepth 100000 in
set_option maxHeartbeats 1000000 in
/-- slices.Clone at a stretch of nodes -/
theorem clone_any (b off : Nat) (l : List Ptr.Nd) (i n c : Nat) (w : World) (hr : RdN w (some ⟨b, off, none⟩) l) (hn : i + n ≤ l.length) (h0 : 0 < n) (hl : l.length ≤ 100000) :
    Calls Tryz.prog 36 #[.slice (some ⟨b, off + i * 4, none⟩) n c] w fun e w' => ∃ g c', e = .returned (.slice (some ⟨g, 0, none⟩) n c') ∧ w'.ownsRow w.heap.size 32 4 (.slice (some ⟨g, 0, none⟩) n c') n (ndsC (partK l i n 0)) ∧ Below w.heap.size w w' := by
  obtain ⟨i0', hi, hz0, hz1, hz2⟩ := info_parts infoN
  have hnil : ∀ (w : World) (ad : Addr) (n c : Nat), (binOp .eql 23 (.slice (some ad) n c) (.slice none 0 0)).run Tryz.prog w = .ok (.bool false) w := fun w ad n c => Lib.run_eql_slice_nil w _ _ (some ad) n c 0 0 Tryz.underlying23
  have HR := Kept.mk hr
  have hc := Kept.mk (rdn_at (hr.below ((Below.refl _ _).alloc (Nat.le_refl _) (.cells #[] 32))) i n hn)
  have hO := Kept.mk (World.ownsRow_lit (base := w.heap.size) (e := 32) (size := 4) w #[] 0 (Nat.le_refl _) (by unfold maxLen; omega) rfl)
  clear hr
  go_enter Tryz.func36, Tryz.ntmps36
  go_wp2_with (at_builtin; refine wpList_append_own _ rfl (.tmp 5) (.tmp 6) 23 rfl w.heap.size 32 i0' (.agg #[.int .u8 0, .string ⟨#[]⟩, .string ⟨#[]⟩, .int .i64 0]) 4 48 Tryz.underlying23 hi hz0 hz1 hz2 rfl (by decide) _ 0 [] (by rfl) hO.out ⟨b, off + i * 4, none⟩ n c (ndsC (partK l i n 0)) (by rfl) (by rw [ndsC_length, partK_len]) hc.out (ndsC_one _) (by unfold maxLen; omega) (by omega) (by simp) ?_; intro v' w5 hown5 hgrow5 _; obtain ⟨g, c', rfl, O5, B5⟩ := clone_got h0 hO.out hown5 hgrow5; clear hown5 hgrow5)
  go_ret
  exact ⟨g, c', rfl, O5.out, B5.out⟩
set_option maxRecDepth 100000 in
set_option maxHeartbeats 4000000 in
theorem Part_any (A : Option Addr) (l : List Ptr.Nd) (c : Nat) (a : Int) (w : World) (hr : RdN w A l) (hl : l.length ≤ 100000) (hc : l.length ≤ c) (hf : FitP l) (hE : TEnv w) :
    Calls Tryz.prog 18 #[.slice A l.length c, .int .i64 a] w fun e w' => ∃ v, e = .returned v ∧ w'.ownsRow w.heap.size 32 4 v (partB l a).length (ndsC (partB l a)) ∧ Below w.heap.size w w' := by
  have cP := place_any A l c a w hr hl hf hE
  unfold partB
  cases hp : placeB l a with
  | false =>
    rw [hp] at cP
    have CP := Kept.mk cP
    rw [if_neg (by simp)]
    clear cP hr hf hE hp
    go_enter Tryz.func18, Tryz.ntmps18
    go_wp2_with (go_at_call 31; refine CP.out.mono ?_; rintro e w1 ⟨rfl, hb1⟩)
    go_ret
    exact ⟨_, rfl, World.ownsRow_nil _ _ _ _, hb1⟩
  | true =>
    obtain ⟨i, rfl, hi⟩ := place_in hp
    have hG := (place_rng hp).1
    rw [hp] at cP
    rw [if_pos rfl, Int.toNat_natCast]
    have cN := fun wx hx => end_any A l c i wx hx hi hl
    rw [endN_same] at cN
    obtain ⟨hn1, hn2, _, _⟩ := Ptr.endN_spec l i hi
    obtain ⟨b, off, rfl, _⟩ := hr.at_ hi
    have hPN := partN_of l i (by omega)
    have hPL := partN_len l i
    have cC := fun n c' wx hx hn h0 => clone_any b off l i n c' wx hx hn h0 hl
    generalize partN l i = PN at hPN hPL ⊢
    generalize Ptr.endN l i = N at cN hn1 hn2 hPN hPL ⊢
    obtain ⟨m, rfl⟩ : ∃ m, N = i + m := ⟨N - i, by omega⟩
    rw [Nat.add_sub_cancel_left] at hPN hPL
    have HR := Kept.mk hr
    have HG := Kept.mk hG
    have HPN := Kept.mk hPN
    have HPL := Kept.mk hPL
    have CP := Kept.mk cP
    have CN := Kept.mk cN
    have CC := Kept.mk cC
    have i0 : (0 : Int) ≤ (i : Int) := by omega
    have i1 : (i : Int) < (l.length : Int) := by omega
    have n0 : (i : Int) ≤ ((i + m : Nat) : Int) := by omega
    have n1 : ((i + m : Nat) : Int) ≤ (c : Int) := by omega
    have n2 : (0 : Int) ≤ ((i + m : Nat) : Int) := by omega
    clear cP cN cC hPN hPL hG hr hf hE hp
    go_enter Tryz.func18, Tryz.ntmps18
    go_wp2_with (first | (go_at_call 31; refine CP.out.mono ?_; rintro e w1 ⟨rfl, hb1⟩; have B1 := Kept.mk hb1; clear hb1) | (go_at_call 37; refine (CN.out _ (HR.out.below B1.out)).mono ?_; rintro e w2 ⟨rfl, rfl⟩) | (go_at_call 36; refine (CC.out _ _ _ (HR.out.below B1.out) (by omega) (by omega)).mono ?_; rintro e w3 ⟨g, c', rfl, hO, hb3⟩; have O3 := Kept.mk hO; have B3 := Kept.mk (B1.out.trans (hb3.mono B1.out.size)); clear hO hb3))
    go_loopw [6, 20] (fun _ j wx => ∃ k : Nat, k ≤ m ∧ j = .int .i64 (k : Int) ∧ Kept (wx.ownsRow w1.heap.size 32 4 (.slice (some ⟨g, 0, none⟩) m c') m (ndsC (partK l i m k))) ∧ Kept (Below w.heap.size w wx)) (fun _ j _ => m - (intOf j).toNat)
    case atStart => exact ⟨0, by omega, rfl, O3, B3⟩
    case round =>
      obtain ⟨k, hk, rfl, HO, HB⟩ := hrel
      have s3 := HB.out.size
      have k0 : (0 : Int) ≤ (k : Int) := by omega
      have g0 := (HO.out.lt g rfl).1
      have s1 := B1.out.size
      by_cases hlt : k < m
      · have k1 : (k : Int) < (m : Int) := by omega
        have cK := HO.out.cellAt (k * 4 + 3) (by omega)
        rw [ndsC_get _ k _ 3 (partK_get l i m k k hlt) (by omega), if_neg (by omega)] at cK
        have cF := HO.out.frozenAt (k * 4 + 3)
        have hst := (HO.out.stored (k * 4 + 3) (.int .i64 (Ptr.par l (i + k) - i))).1
        rw [ndsC_set _ k _ (by rw [partK_len]; exact hlt), partK_step l i m k hlt] at hst
        have hrk := HG.out (i + k) (by omega)
        have cK2 : wr.cell? ⟨g, k * 4 + 3, none⟩ = some (.int .i64 (Ptr.par l (i + k))) := cK
        clear cK
        generalize Ptr.par l (i + k) = P at cK2 hst hrk
        have O9 := Kept.mk hst
        have B9 := Kept.mk (HB.out.setCell (p := ⟨g, k * 4 + 3, none⟩) (by show w.heap.size ≤ g; omega) (.int .i64 (P - i)))
        clear hst
        go_wp2
        go_roundw
        case rel => exact ⟨k + 1, by omega, by go_num, O9, B9⟩
        case measure => simp [intOf]; omega
      · obtain rfl : k = m := by omega
        have cF := HO.out.frozenAt 3
        have cF2 : wr.frozen? ⟨g, 0 + 3, none⟩ = false := cF
        have cK := HO.out.cellAt (0 * 4 + 3) (by omega)
        rw [ndsC_get _ 0 _ 3 (partK_get l i k k 0 (by omega)) (by omega)] at cK
        have cK2 : ∃ z, wr.cell? ⟨g, 3, none⟩ = some (.int .i64 z) := ⟨_, cK⟩
        obtain ⟨z, cK3⟩ := cK2
        have hst := (HO.out.stored (0 * 4 + 3) (.int .i64 (-1))).1
        rw [ndsC_set _ 0 _ (by rw [partK_len]; omega), HPN.out] at hst
        have O9 := Kept.mk hst
        have B9 := Kept.mk (HB.out.setCell (p := ⟨g, 3, none⟩) (by show w.heap.size ≤ g; omega) (.int .i64 (-1)))
        have m0 : (0 : Int) < (k : Int) := by omega
        clear hst cK
        go_wp2
        go_ret
        exact ⟨_, rfl, by rw [HPL.out]; exact own_low O9.out s1, B9.out⟩
end Go.Proofs.YtemfmidhekdekaaGreatDoor.Wtr
