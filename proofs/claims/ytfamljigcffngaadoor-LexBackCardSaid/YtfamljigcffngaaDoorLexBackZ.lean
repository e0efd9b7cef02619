/- Tokens whose places are any numbers: read, copied, made bare; a slice of tokens that came in. -/
import Derived.Test.YtfamljigcffngaaDoorLexBareB
import Derived.ChangeSame
import Derived.Deep.Slices
import Derived.Deep.Fields
import Derived.WalkKit
import Derived.OpenShut
namespace Go.Proofs.YtfamljigcffngaaDoor.Wlx
open Go Go.RowKit Go.Proofs.YtfamljigcffngaaDoor.Wch

/-- a token with its place, any number -/
abbrev TZ := Plx.Tok × Int
def tokZ (x : TZ) : List Value := [.int .u8 x.1.1, .string ⟨x.1.2.1.toArray⟩, .int .i64 x.1.2.2, .int .i64 x.2]
def toksZ (l : List TZ) : List Value := l.flatMap tokZ
theorem toksZ_append (l m : List TZ) : toksZ (l ++ m) = toksZ l ++ toksZ m := by simp [toksZ]
theorem toksZ_length (l : List TZ) : (toksZ l).length = l.length * 4 := by
  induction l with
  | nil => rfl
  | cons x l ih =>
    rw [show toksZ (x :: l) = tokZ x ++ toksZ l from rfl, List.length_append, ih, List.length_cons, show (tokZ x).length = 4 from rfl]
    omega
/-- the slice at A reads as these tokens (nothing is said of an empty one) -/
def RdZ (w : World) (A : Option Addr) (l : List (TZ)) : Prop :=
  l ≠ [] → ∃ b off, A = some ⟨b, off, none⟩ ∧ ∀ j x, l[j]? = some x → w.cell? ⟨b, off + j * 4, none⟩ = some (.int .u8 x.1.1) ∧ w.cell? ⟨b, off + j * 4 + 1, none⟩ = some (.string ⟨x.1.2.1.toArray⟩) ∧ w.cell? ⟨b, off + j * 4 + 2, none⟩ = some (.int .i64 x.1.2.2) ∧ w.cell? ⟨b, off + j * 4 + 3, none⟩ = some (.int .i64 x.2)
theorem RdZ.below {w w' : World} {A : Option Addr} {l : List (TZ)} (h : RdZ w A l) (hb : Below w.heap.size w w') : RdZ w' A l := by
  intro hne
  obtain ⟨b, off, hA, hc⟩ := h hne
  exact ⟨b, off, hA, fun j x hx => ⟨cell_keep hb (hc j x hx).1, cell_keep hb (hc j x hx).2.1, cell_keep hb (hc j x hx).2.2.1, cell_keep hb (hc j x hx).2.2.2⟩⟩
theorem toksZ_get : ∀ (l : List (TZ)) (j : Nat) (x : TZ) (i : Nat), l[j]? = some x → i < 4 → (toksZ l)[j * 4 + i]? = (tokZ x)[i]?
  | [], j, x, i, h, _ => by simp at h
  | y :: l, 0, x, i, h, hi => by
    simp only [List.getElem?_cons_zero, Option.some.injEq] at h
    subst h
    rw [show toksZ (y :: l) = tokZ y ++ toksZ l from rfl, Nat.zero_mul, Nat.zero_add, List.getElem?_append_left (by simp [tokZ]; omega)]
  | y :: l, j + 1, x, i, h, hi => by
    rw [List.getElem?_cons_succ] at h
    rw [show toksZ (y :: l) = tokZ y ++ toksZ l from rfl, List.getElem?_append_right (by simp [tokZ]; omega), ← toksZ_get l j x i h hi]
    congr 1
    simp [tokZ]
    omega
theorem rdz_of_own {w : World} {base g n c : Nat} {l : List (TZ)} (h : w.ownsRow base 24 4 (.slice (some ⟨g, 0, none⟩) n c) n (toksZ l)) : RdZ w (some ⟨g, 0, none⟩) l := by
  intro _
  refine ⟨g, 0, rfl, fun j x hx => ?_⟩
  have hc := fun i u hi (hu : (tokZ x)[i]? = some u) => h.cells (g := g) rfl (j * 4 + i) u (by rw [toksZ_get l j x i hx hi]; exact hu)
  have ha : ∀ k : Nat, (⟨g, 0, none⟩ : Addr).add k = ⟨g, k, none⟩ := fun k => by unfold Addr.add; split <;> simp_all
  simp only [Nat.zero_add]
  exact ⟨by have := hc 0 _ (by omega) rfl; rwa [ha] at this, by have := hc 1 _ (by omega) rfl; rwa [ha] at this, by have := hc 2 _ (by omega) rfl; rwa [ha] at this, by have := hc 3 _ (by omega) rfl; rwa [ha] at this⟩
theorem toksZ_cells {w : World} {b off : Nat} {l : List (TZ)} (hr : RdZ w (some ⟨b, off, none⟩) l) (j : Nat) (u : Value) (hu : (toksZ l)[j]? = some u) : w.cell? ((⟨b, off, none⟩ : Addr).add j) = some u := by
  have hj : j < l.length * 4 := by rw [← toksZ_length]; exact (List.getElem?_eq_some_iff.1 hu).1
  have hk : j / 4 < l.length := by omega
  obtain ⟨x, hx⟩ : ∃ x, l[j / 4]? = some x := ⟨_, List.getElem?_eq_getElem hk⟩
  have hm : j % 4 < 4 := Nat.mod_lt _ (by decide)
  have e := toksZ_get l (j / 4) x (j % 4) hx hm
  have ej : j / 4 * 4 + j % 4 = j := by omega
  rw [ej, hu] at e
  obtain ⟨b', off', hA, hc⟩ := hr (by intro e; subst e; simp at hk)
  cases hA
  obtain ⟨c0, c1, c2, c3⟩ := hc _ x hx
  have ha : (⟨b, off, none⟩ : Addr).add j = ⟨b, off + j, none⟩ := by unfold Addr.add; by_cases h : j = 0 <;> simp [h]
  rw [ha]
  have hcase : j % 4 = 0 ∨ j % 4 = 1 ∨ j % 4 = 2 ∨ j % 4 = 3 := by omega
  rcases hcase with h | h | h | h <;> rw [h] at e <;> simp only [tokZ, List.getElem?_cons_zero, List.getElem?_cons_succ, Option.some.injEq] at e <;> subst e
  · rw [show off + j = off + j / 4 * 4 by omega]; exact c0
  · rw [show off + j = off + j / 4 * 4 + 1 by omega]; exact c1
  · rw [show off + j = off + j / 4 * 4 + 2 by omega]; exact c2
  · rw [show off + j = off + j / 4 * 4 + 3 by omega]; exact c3
theorem toksZ_one (l : List (TZ)) : ∀ u ∈ toksZ l, u.oneCell' = true := by
  intro u hu
  obtain ⟨x, _, hx⟩ := List.mem_flatMap.1 hu
  simp only [tokZ, List.mem_cons, List.mem_nil_iff, or_false] at hx
  rcases hx with rfl | rfl | rfl | rfl <;> rfl
set_option maxRecDepth 100000 in
theorem copyZ_any (b off : Nat) (l : List (TZ)) (c : Nat) (w : World) (hr : RdZ w (some ⟨b, off, none⟩) l) (hl : l.length ≤ 100000000) :
    Calls Tryd.prog 27 #[.slice (some ⟨b, off, none⟩) l.length c] w fun e w' => ∃ v, e = .returned v ∧ w'.ownsRow w.heap.size 24 4 v l.length (toksZ l) ∧ Below w.heap.size w w' := by
  have HC := Kept.mk (toksZ_cells hr)
  have hown : w.ownsRow w.heap.size 24 4 (.slice none 0 0) 0 [] := World.ownsRow_nil _ _ _ _
  have HO := Kept.mk hown
  clear hr hown
  obtain ⟨i0', hi', hz0', hz1', hz2'⟩ := info_parts infoT
  go_enter Tryd.func27, Tryd.ntmps27
  go_wp2_with (at_builtin; refine wpList_append_own _ rfl (.tmp 4) (.tmp 5) 29 rfl w.heap.size 24 i0' (.agg #[.int .u8 0, .string ⟨#[]⟩, .int .i64 0, .int .i64 0]) 4 40 Tryd.underlying29 hi' hz0' hz1' hz2' rfl (by decide) _ 0 [] rfl HO.out ⟨b, off, none⟩ l.length c (toksZ l) rfl (toksZ_length l) HC.out (toksZ_one l) (by unfold maxLen; omega) (by omega) (Nat.le_refl _) ?_; intro v' w1 hown' hg _)
  go_ret
  rw [Nat.zero_add, List.nil_append] at hown'
  exact ⟨v', rfl, hown', Below.grown (Below.refl _ _) hg (Nat.le_refl _) (fun _ hj => (HO.out.lt _ hj).1)⟩
/-- a token without its place -/
def bareZ (x : TZ) : TZ := (x.1, 0)
theorem toksZ_set (a : List (TZ)) (x : TZ) (b : List (TZ)) (i : Nat) (hi : i = a.length * 4 + 3) : (toksZ (a ++ x :: b)).set i (.int .i64 0) = toksZ (a ++ bareZ x :: b) := by
  subst hi
  rw [toksZ_append, toksZ_append, List.set_append_right _ _ (by rw [toksZ_length]; omega), toksZ_length, Nat.add_sub_cancel_left]
  rfl
set_option maxRecDepth 100000 in
set_option maxHeartbeats 1000000 in
theorem bareZ_any (b off : Nat) (l : List (TZ)) (c : Nat) (w : World) (hr : RdZ w (some ⟨b, off, none⟩) l) (hne : 0 < l.length) (hl : l.length ≤ 100000000) :
    Calls Tryd.prog 12 #[.slice (some ⟨b, off, none⟩) l.length c] w fun e w' => ∃ g d, e = .returned (.slice (some ⟨g, 0, none⟩) l.length d) ∧ w.heap.size ≤ g ∧ RdZ w' (some ⟨g, 0, none⟩) (l.map bareZ) ∧ Below w.heap.size w w' := by
  have HR := Kept.mk hr
  clear hr
  go_enter Tryd.func12, Tryd.ntmps12
  go_wp2_with (fail)
  refine (copyZ_any b off l c _ HR.out hl).mono ?_; rintro e w1 ⟨v, rfl, hown, hb1⟩
  obtain ⟨g, d, rfl, _, hcap⟩ := hown.form hne
  have hg : w.heap.size ≤ g := by
    rcases hown.2 with ⟨h0, _⟩ | ⟨g', cap', cur, hv, hb, _⟩
    · cases h0
    · cases hv
      exact hb
  have HG := Kept.mk hg
  have O1 := Kept.mk hown
  clear hown
  go_wp2
  go_loopw [4] (fun i wx => ∃ k : Nat, k ≤ l.length ∧ i = .int .i64 k ∧ wx.ownsRow w.heap.size 24 4 (.slice (some ⟨g, 0, none⟩) l.length d) l.length (toksZ ((l.take k).map bareZ ++ l.drop k)) ∧ Below w.heap.size w wx) (fun i _ => l.length - (intOf i).toNat)
  case atStart => exact ⟨0, by omega, rfl, by simpa using O1.out, hb1⟩
  case round =>
    obtain ⟨k, hk, rfl, ho, hw⟩ := hrel
    by_cases hlt : k < l.length
    · have hd : l.drop k = l[k] :: l.drop (k + 1) := List.drop_eq_getElem_cons hlt
      have hs := toksZ_set ((l.take k).map bareZ) l[k] (l.drop (k + 1)) (k * 4 + 3) (by rw [List.length_map, List.length_take, Nat.min_eq_left (by omega)])
      have ho2 := ownT_set ho (k * 4 + 3) (.int .i64 0)
      rw [hd, hs] at ho2
      have hl2 : (l.take (k + 1)).map bareZ ++ l.drop (k + 1) = (l.take k).map bareZ ++ bareZ l[k] :: l.drop (k + 1) := by
        rw [List.take_add_one, List.getElem?_eq_getElem hlt, List.map_append, List.append_assoc]
        rfl
      rw [← hl2] at ho2
      have hR := rdz_of_own ho (by intro e; have := congrArg List.length e; simp at this; omega)
      obtain ⟨_, _, hA, hc⟩ := hR
      cases hA
      obtain ⟨_, _, _, c3⟩ := hc k l[k] (by rw [List.getElem?_append_right (by simp; omega)]; simp [List.length_take, Nat.min_eq_left (Nat.le_of_lt hlt), hlt])
      rw [Nat.zero_add] at c3
      have fz : wr.frozen? ⟨g, k * 4 + 3, none⟩ = false := by
        rcases ho.2 with ⟨h0, _⟩ | ⟨g', cap', cur, hv, _, hh, _⟩
        · cases h0
        · injection hv with hA _ _
          injection hA with hA
          injection hA with hA
          subst hA
          exact Joins.unfrozen_of_block hh _
      have OO := Kept.mk ho2
      have BB : Kept (Below w.heap.size w (wr.setCell ⟨g, k * 4 + 3, none⟩ (.int .i64 0))) := ⟨hw.setCell (by exact hg) _⟩
      have i0 : (0 : Int) ≤ (k : Int) := by omega
      have i1 : (k : Int) < (l.length : Int) := by omega
      clear hc ho ho2 hd hs hl2 hw
      go_wp2
      go_roundw
      case rel => exact ⟨k + 1, by omega, by go_num, OO.out, BB.out⟩
      case measure => simp [intOf]; omega
    · obtain rfl : k = l.length := by omega
      rw [List.take_length, List.drop_length, List.append_nil] at ho
      have hR := Kept.mk (rdz_of_own ho)
      clear ho
      go_wp2
      go_ret
      exact ⟨g, d, rfl, HG.out, hR.out, hw⟩
theorem rdz_of_t {w : World} {A : Option Addr} {m : List (Plx.Tok × Nat)} (h : RdT w A m) : RdZ w A (m.map fun x => (x.1, (x.2 : Int))) := by
  intro hne
  obtain ⟨b, off, hA, hc⟩ := h (by simpa using hne)
  refine ⟨b, off, hA, fun j x hx => ?_⟩
  rw [List.getElem?_map, Option.map_eq_some_iff] at hx
  obtain ⟨y, hy, rfl⟩ := hx
  exact hc j y hy
theorem rdt_of_z {w : World} {A : Option Addr} {l : List TZ} {m : List (Plx.Tok × Nat)} (h : RdZ w A l) (e : l = m.map fun x => (x.1, (x.2 : Int))) : RdT w A m := by
  subst e
  intro hne
  obtain ⟨b, off, hA, hc⟩ := h (by simpa using hne)
  exact ⟨b, off, hA, fun j x hx => hc j (x.1, (x.2 : Int)) (by rw [List.getElem?_map, hx]; rfl)⟩
end Go.Proofs.YtfamljigcffngaaDoor.Wlx
