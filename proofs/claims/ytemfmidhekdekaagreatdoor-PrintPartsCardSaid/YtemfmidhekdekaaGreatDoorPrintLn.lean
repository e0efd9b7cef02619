/- The walks over lines: a copy of a tree whose comments and instructions have one kind of line ends (chapter 08). -/
import Derived.Test.YtemfmidhekdekaaGreatDoorPrReadW
import Derived.Test.YtemfmidhekdekaaGreatDoorPrintQd
import Derived.Laws.AppendOwnNone
namespace Go.Proofs.YtemfmidhekdekaaGreatDoor.Wps
open Go Go.RowKit Go.Proofs.YtemfmidhekdekaaGreatDoor.Kb Go.Proofs.YtemfmidhekdekaaGreatDoor.Wch Go.Proofs.YtemfmidhekdekaaGreatDoor.Wtr Go.Proofs.YtemfmidhekdekaaGreatDoor.Flt Go.Proofs.YtemfmidhekdekaaGreatDoor.Ptr Go.Proofs.YtemfmidhekdekaaGreatDoor.Ppa

theorem own_form {w : World} {base size n : Nat} {e : TypeId} {v : Value} {xs : List Value} (h : w.ownsRow base e size v n xs) : ∃ A c, v = .slice A n c ∧ (A = none → c = 0) := by
  rcases h.2 with ⟨rfl, rfl⟩ | ⟨g, cap, cur, rfl, hb, hg, hc, _⟩
  · exact ⟨none, 0, rfl, fun _ => rfl⟩
  · exact ⟨_, cap, rfl, fun e => by cases e⟩
theorem rdn_cells {w : World} {b off : Nat} {fld : _} {l : List Ptr.Nd} (h : RdN w (some ⟨b, off, fld⟩) l) : ∀ j u, (ndsC l)[j]? = some u → w.cell? ((⟨b, off, fld⟩ : Addr).add j) = some u := by
  intro j u hu
  have hj : j < (ndsC l).length := (List.getElem?_eq_some_iff.1 hu).1
  rw [ndsC_length] at hj
  have hne : l ≠ [] := by intro e; subst e; simp at hj
  obtain ⟨b', off', hA, hc⟩ := h hne
  cases hA
  have hq : j / 4 < l.length := by omega
  have hx := List.getElem?_eq_getElem hq
  have hN := hc (j / 4) _ hx
  have hg := ndsC_get l (j / 4) _ (j % 4) hx (Nat.mod_lt _ (by decide))
  rw [show j / 4 * 4 + j % 4 = j by omega, hu] at hg
  rw [addr_add]
  obtain ⟨n0, n1, n2, n3⟩ := hN
  generalize l[j / 4] = x at hg n0 n1 n2 n3
  have hr : j % 4 < 4 := Nat.mod_lt _ (by decide)
  have hjj : off + j = off + j / 4 * 4 + j % 4 := by omega
  rw [hjj]
  generalize off + j / 4 * 4 = o at n0 n1 n2 n3
  generalize j % 4 = r at hg hr
  match r, hr, hg with
  | 0, _, hg => rw [Nat.add_zero, n0, hg]; rfl
  | 1, _, hg => rw [n1, hg]; rfl
  | 2, _, hg => rw [n2, hg]; rfl
  | 3, _, hg => rw [n3, hg]; rfl
set_option maxHeartbeats 1000000 in
theorem copyNodes_any (A : Option Addr) (l : List Ptr.Nd) (c : Nat) (w : World) (hr : RdN w A l) (hc : A = none → c = 0) (hlc : l.length ≤ c) (hl : l.length ≤ 1000) :
    Calls Tryz.prog 34 #[.slice A l.length c] w fun e w' => ∃ A' c', e = .returned (.slice A' l.length c') ∧ (A' = none → c' = 0) ∧ w'.ownsRow w.heap.size 32 4 (.slice A' l.length c') l.length (ndsC l) ∧ Below w.heap.size w w' := by
  obtain ⟨i0', hi', hz0, hz1, hz2⟩ := info_parts infoN
  cases A with
  | none =>
    have hc0 := hc rfl
    have hl0 : l = [] := List.length_eq_zero_iff.1 (by omega)
    subst hl0 hc0
    clear hr hc
    go_enter Tryz.func34, Tryz.ntmps34
    go_wp2_with (at_builtin; refine wpList_append_own_none rfl (.tmp 4) (.tmp 5) 23 rfl w.heap.size 32 i0' 4 Tryz.underlying23 hi' (.slice none 0 0) 0 [] (by rfl) (World.ownsRow_nil _ _ _ _) (by rfl) ?_)
    go_ret
    exact ⟨none, 0, rfl, fun _ => rfl, World.ownsRow_nil _ _ _ _, Below.refl _ _⟩
  | some ad =>
    obtain ⟨b, off, fld⟩ := ad
    have hcell : ∀ j u, (ndsC l)[j]? = some u → w.cell? ((⟨b, off, fld⟩ : Addr).add j) = some u := by
      intro j u hu
      exact rdn_cells hr j u hu
    clear hr hc
    go_enter Tryz.func34, Tryz.ntmps34
    go_wp2_with (at_builtin; refine wpList_append_own _ rfl (.tmp 4) (.tmp 5) 23 rfl w.heap.size 32 i0' (.agg #[.int .u8 0, .string ⟨#[]⟩, .string ⟨#[]⟩, .int .i64 0]) 4 48 Tryz.underlying23 hi' hz0 hz1 hz2 rfl (by decide) (.slice none 0 0) 0 [] (by rfl) (World.ownsRow_nil _ _ _ _) ⟨b, off, fld⟩ l.length c (ndsC l) (by rfl) (ndsC_length l) hcell (ndsC_one l) (by unfold maxLen; omega) (by omega) (Nat.le_refl _) ?_; intro v' w5 ho5 hg5 _; have O5 := Kept.mk ho5; have B5 := Kept.mk (Below.grown (Below.refl w.heap.size w) hg5 (Nat.le_refl _) (fun q hq => by cases hq)); clear ho5 hg5)
    go_ret
    have h := O5.out
    rw [Nat.zero_add, List.nil_append] at h
    obtain ⟨A', c', rfl, hA⟩ := own_form h
    exact ⟨A', c', rfl, hA, h, B5.out⟩

theorem ndsC_setV : ∀ (L : List Ptr.Nd) (k : Nat) (z : List UInt8), k < L.length → (ndsC L).set (k * 4 + 2) (.string ⟨z.toArray⟩) = ndsC (L.set k ((L.getD k Ptr.nd0).1, (L.getD k Ptr.nd0).2.1, z, (L.getD k Ptr.nd0).2.2.2))
  | [], k, _, h => by simp at h
  | y :: L, 0, z, _ => by
    rw [show ndsC (y :: L) = ndC y ++ ndsC L from rfl, List.set_append_left _ _ (by simp [ndC])]
    rfl
  | y :: L, k + 1, z, h => by
    rw [show ndsC (y :: L) = ndC y ++ ndsC L from rfl, List.set_append_right _ _ (by simp [ndC]; omega), show (k + 1) * 4 + 2 - (ndC y).length = k * 4 + 2 by simp [ndC]; omega, ndsC_setV L k z (by simpa using h)]
    rfl
/-- a tree, the first k nodes with one kind of line ends -/
def linK (l : List Ptr.Nd) (k : Nat) : List Ptr.Nd := (List.range l.length).map fun j => (kin l j, nam l j, (if j < k then linV (kin l j) (val l j) else val l j), par l j)
theorem linK_len (l : List Ptr.Nd) (k : Nat) : (linK l k).length = l.length := by simp [linK]
theorem linK_get (l : List Ptr.Nd) (k j : Nat) (h : j < l.length) : (linK l k)[j]? = some (kin l j, nam l j, (if j < k then linV (kin l j) (val l j) else val l j), par l j) := by
  unfold linK
  rw [List.getElem?_map, List.getElem?_range h]
  rfl
theorem linK_step (l : List Ptr.Nd) (k : Nat) (h : k < l.length) : (linK l k).set k (((linK l k).getD k Ptr.nd0).1, ((linK l k).getD k Ptr.nd0).2.1, linV (kin l k) (val l k), ((linK l k).getD k Ptr.nd0).2.2.2) = linK l (k + 1) := by
  apply List.ext_getElem?
  intro j
  by_cases hj : j < l.length
  · rw [linK_get l (k + 1) j hj]
    by_cases e : k = j
    · subst e
      rw [List.getElem?_set_self (by rw [linK_len]; exact h), List.getD_eq_getElem?_getD, linK_get l k k h, if_pos (show k < k + 1 by omega)]
      rfl
    · rw [List.getElem?_set_ne e, linK_get l k j hj]
      by_cases h2 : j < k
      · rw [if_pos h2, if_pos (show j < k + 1 by omega)]
      · rw [if_neg h2, if_neg (show ¬ j < k + 1 by omega)]
  · rw [List.getElem?_eq_none (by simp [linK_len]; omega), List.getElem?_eq_none (by rw [linK_len]; omega)]
theorem linK_same (l : List Ptr.Nd) (k : Nat) (h : k < l.length) (hv : linV (kin l k) (val l k) = val l k) : linK l k = linK l (k + 1) := by
  unfold linK
  apply List.map_congr_left
  intro j _
  by_cases e : j < k
  · rw [if_pos e, if_pos (by omega)]
  · by_cases e2 : j = k
    · subst e2
      rw [if_neg e, if_pos (by omega), hv]
    · rw [if_neg e, if_neg (by omega)]
theorem linK_zero (l : List Ptr.Nd) : linK l 0 = l := by
  apply List.ext_getElem?
  intro j
  by_cases hj : j < l.length
  · rw [linK_get l 0 j hj, nd_get hj, if_neg (by omega)]
  · rw [List.getElem?_eq_none (by rw [linK_len]; omega), List.getElem?_eq_none (by omega)]
theorem linK_all (l : List Ptr.Nd) : linK l l.length = linesN l := by
  apply List.ext_getElem?
  intro j
  by_cases hj : j < l.length
  · rw [linK_get l l.length j hj, lines_get l hj, if_pos hj]
  · rw [List.getElem?_eq_none (by rw [linK_len]; omega), List.getElem?_eq_none (by rw [lines_len]; omega)]
theorem repl_two (v : List UInt8) (hv : v.length ≤ 65536) : ∃ X : ByteArray, (∀ wx, Ev wx → Calls Tryz.prog 35 #[.string ⟨v.toArray⟩, .string ⟨#[13, 10]⟩, .string ⟨#[10]⟩] wx fun e w' => e = .returned (.string X) ∧ Below wx.heap.size wx w') ∧ (∀ wx, Ev wx → Calls Tryz.prog 35 #[.string X, .string ⟨#[13]⟩, .string ⟨#[10]⟩] wx fun e w' => e = .returned (.string ⟨(said v).toArray⟩) ∧ Below wx.heap.size wx w') := by
  have hs := Ppa.said_prog v
  have hl := Ppa.crlf_length _ v (Nat.le_refl _)
  rw [← Ppa.repl_crlf] at hl
  refine ⟨⟨(Lib.replaceAll v [13, 10] [10]).toArray⟩, fun wx hx => repl_call ⟨v.toArray⟩ ⟨#[13, 10]⟩ ⟨#[10]⟩ wx (by rw [Lib.size_mk]; omega) (by decide) rfl hx, fun wx hx => ?_⟩
  rw [← hs]
  exact repl_call ⟨(Lib.replaceAll v [13, 10] [10]).toArray⟩ ⟨#[13]⟩ ⟨#[10]⟩ wx (by rw [Lib.size_mk]; omega) (by decide) rfl hx
set_option maxRecDepth 100000 in
set_option maxHeartbeats 4000000 in
theorem lines_any (A : Option Addr) (l : List Ptr.Nd) (c : Nat) (w : World) (hr : RdN w A l) (hc : A = none → c = 0) (hlc : l.length ≤ c) (hl : l.length ≤ 1000) (hv : ∀ k, k < l.length → (val l k).length ≤ 65536) (he : Ev w) :
    Calls Tryz.prog 17 #[.slice A l.length c] w fun e w' => ∃ A' c', e = .returned (.slice A' l.length c') ∧ w'.ownsRow w.heap.size 32 4 (.slice A' l.length c') l.length (ndsC (linesN l)) ∧ Below w.heap.size w w' := by
  have CC := Kept.mk (copyNodes_any A l c w hr hc hlc hl)
  have HV := Kept.mk hv
  have HE := Kept.mk he
  have HZ := Kept.mk (linK_zero l)
  clear hr hc hv he
  go_enter Tryz.func17, Tryz.ntmps17
  go_wp2_with (go_at_call 34; refine CC.out.mono ?_; rintro e w1 ⟨A', c', rfl, _, ho1, hb1⟩; rw [← HZ.out, linK_len] at ho1; have O1 := Kept.mk ho1; have B1 := Kept.mk hb1; clear ho1 hb1 CC)
  go_loopw [4] (fun j wx => ∃ k : Nat, k ≤ l.length ∧ j = .int .i64 (k : Int) ∧ Kept (wx.ownsRow w.heap.size 32 4 (.slice A' l.length c') l.length (ndsC (linK l k))) ∧ Kept (Below w.heap.size w wx)) (fun j _ => l.length - (intOf j).toNat)
  case atStart => exact ⟨0, by omega, rfl, O1, B1⟩
  case round =>
    obtain ⟨k, hk, rfl, HO, HB⟩ := hrel
    have k0 : (0 : Int) ≤ (k : Int) := by omega
    by_cases hlt : k < l.length
    · have k1 : (k : Int) < (l.length : Int) := by omega
      obtain ⟨g, hA, hcn, hgl⟩ := own_some8 HO.out (by omega)
      subst hA
      have g0 := (HO.out.lt g rfl).1
      by_cases k5 : kin l k = 5
      · have cK0 : wr.cell? ⟨g, k * 4, none⟩ = some (.int .u8 5) := by
          have h := HO.out.cellAt (k * 4 + 0) (by omega)
          rw [ndsC_get _ k _ 0 (linK_get l k k hlt) (by omega)] at h
          rw [show k * 4 + 0 = k * 4 from rfl] at h
          rw [h]
          show some (Value.int .u8 ((kin l k : Nat) : Int)) = _
          rw [k5]
          rfl
        have cK2 : wr.cell? ⟨g, k * 4 + 2, none⟩ = some (.string ⟨(val l k).toArray⟩) := by
          have h := HO.out.cellAt (k * 4 + 2) (by omega)
          rw [ndsC_get _ k _ 2 (linK_get l k k hlt) (by omega), if_neg (by omega)] at h
          exact h
        have hst := linK_step l k hlt
        rw [show linV (kin l k) (val l k) = said (val l k) by unfold linV; rw [if_pos (.inl k5)]] at hst
        obtain ⟨X, c1, c2⟩ := repl_two (val l k) (HV.out k hlt)
        have cset := fun (wx : World) => ndsC_setV (linK l k) k (said (val l k)) (by rw [linK_len]; exact hlt)
        rw [hst] at cset
        have CS := Kept.mk cset
        have C1 := Kept.mk c1
        have C2 := Kept.mk c2
        clear c1 c2 cset hst k5
        generalize val l k = V at cK2 C1
        generalize said (val l k) = S at C2 CS
        go_wp2_with (first | (go_at_call 35; refine (C1.out _ (HE.out.below HB.out)).mono ?_; rintro e w1 ⟨rfl, hb1⟩; have B1 := Kept.mk (HB.out.trans (hb1.mono HB.out.size)); have O1 := Kept.mk (own_below HO.out hb1); clear hb1 C1) | (go_at_call 35; refine (C2.out _ (HE.out.below B1.out)).mono ?_; rintro e w2 ⟨rfl, hb2⟩; have B2 := Kept.mk (B1.out.trans (hb2.mono B1.out.size)); have hO2 := own_below O1.out hb2; have f2 : w2.frozen? ⟨g, k * 4 + 2, none⟩ = false := hO2.frozenAt (k * 4 + 2); have c2 := hO2.cellAt (k * 4 + 2) (by omega); obtain ⟨z, hz⟩ : ∃ z, (ndsC (linK l k))[k * 4 + 2]? = some z := ⟨_, List.getElem?_eq_getElem (by rw [ndsC_length, linK_len]; omega)⟩; rw [hz] at c2; have hst := (hO2.stored (k * 4 + 2) (.string ⟨S.toArray⟩)).1; rw [CS.out w2] at hst; have O9 := Kept.mk hst; have B9 := Kept.mk (B2.out.setCell (p := ⟨g, k * 4 + 2, none⟩) (by show w.heap.size ≤ g; exact g0) (.string ⟨S.toArray⟩)); clear hb2 hO2 hst hz))
        go_roundw
        case rel => exact ⟨k + 1, by omega, by go_num, O9, B9⟩
        case measure => simp [intOf]; omega
      by_cases k6 : kin l k = 6
      · have cK0 : wr.cell? ⟨g, k * 4, none⟩ = some (.int .u8 6) := by
          have h := HO.out.cellAt (k * 4 + 0) (by omega)
          rw [ndsC_get _ k _ 0 (linK_get l k k hlt) (by omega)] at h
          rw [show k * 4 + 0 = k * 4 from rfl] at h
          rw [h]
          show some (Value.int .u8 ((kin l k : Nat) : Int)) = _
          rw [k6]
          rfl
        have cK2 : wr.cell? ⟨g, k * 4 + 2, none⟩ = some (.string ⟨(val l k).toArray⟩) := by
          have h := HO.out.cellAt (k * 4 + 2) (by omega)
          rw [ndsC_get _ k _ 2 (linK_get l k k hlt) (by omega), if_neg (by omega)] at h
          exact h
        have hst := linK_step l k hlt
        rw [show linV (kin l k) (val l k) = said (val l k) by unfold linV; rw [if_pos (.inr k6)]] at hst
        obtain ⟨X, c1, c2⟩ := repl_two (val l k) (HV.out k hlt)
        have cset := fun (wx : World) => ndsC_setV (linK l k) k (said (val l k)) (by rw [linK_len]; exact hlt)
        rw [hst] at cset
        have CS := Kept.mk cset
        have C1 := Kept.mk c1
        have C2 := Kept.mk c2
        clear c1 c2 cset hst k6
        generalize val l k = V at cK2 C1
        generalize said (val l k) = S at C2 CS
        go_wp2_with (first | (go_at_call 35; refine (C1.out _ (HE.out.below HB.out)).mono ?_; rintro e w1 ⟨rfl, hb1⟩; have B1 := Kept.mk (HB.out.trans (hb1.mono HB.out.size)); have O1 := Kept.mk (own_below HO.out hb1); clear hb1 C1) | (go_at_call 35; refine (C2.out _ (HE.out.below B1.out)).mono ?_; rintro e w2 ⟨rfl, hb2⟩; have B2 := Kept.mk (B1.out.trans (hb2.mono B1.out.size)); have hO2 := own_below O1.out hb2; have f2 : w2.frozen? ⟨g, k * 4 + 2, none⟩ = false := hO2.frozenAt (k * 4 + 2); have c2 := hO2.cellAt (k * 4 + 2) (by omega); obtain ⟨z, hz⟩ : ∃ z, (ndsC (linK l k))[k * 4 + 2]? = some z := ⟨_, List.getElem?_eq_getElem (by rw [ndsC_length, linK_len]; omega)⟩; rw [hz] at c2; have hst := (hO2.stored (k * 4 + 2) (.string ⟨S.toArray⟩)).1; rw [CS.out w2] at hst; have O9 := Kept.mk hst; have B9 := Kept.mk (B2.out.setCell (p := ⟨g, k * 4 + 2, none⟩) (by show w.heap.size ≤ g; exact g0) (.string ⟨S.toArray⟩)); clear hb2 hO2 hst hz))
        go_roundw
        case rel => exact ⟨k + 1, by omega, by go_num, O9, B9⟩
        case measure => simp [intOf]; omega
      have e : linV (kin l k) (val l k) = val l k := by unfold linV; rw [if_neg (by omega)]
      have cK0 : wr.cell? ⟨g, k * 4, none⟩ = some (.int .u8 ((kin l k : Nat) : Int)) := by
        have h := HO.out.cellAt (k * 4 + 0) (by omega)
        rw [ndsC_get _ k _ 0 (linK_get l k k hlt) (by omega)] at h
        exact h
      have O9 := Kept.mk HO.out
      rw [linK_same l k hlt e] at O9
      have B9 := HB
      have q5 : (((kin l k : Nat) : Int) == 5) = false := by simp; omega
      have q6 : (((kin l k : Nat) : Int) == 6) = false := by simp; omega
      clear k5 k6 e
      generalize ((kin l k : Nat) : Int) = K at cK0 q5 q6
      go_wp2
      go_roundw
      case rel => exact ⟨k + 1, by omega, by go_num, O9, B9⟩
      case measure => simp [intOf]; omega
    · obtain rfl : k = l.length := by omega
      have O9 := HO.out
      rw [linK_all] at O9
      have HO9 := Kept.mk O9
      clear O9
      go_wp2
      go_ret
      exact ⟨_, _, rfl, HO9.out, HB.out⟩
end Go.Proofs.YtemfmidhekdekaaGreatDoor.Wps
