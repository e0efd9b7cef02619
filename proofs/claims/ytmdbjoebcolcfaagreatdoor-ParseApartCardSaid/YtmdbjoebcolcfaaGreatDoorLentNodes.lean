/- The walk over the kit's markNode; two nodes are compared. The walks over the kit's LentNodes, KeptNodes. -/
import Derived.Test.YtmdbjoebcolcfaaGreatDoorFlatMark
import Derived.Test.YtmdbjoebcolcfaaGreatDoorNodeKit
import Derived.Lib.SmallJoins
import Derived.WalkSmall
import Derived.Laws.StructEq
import Derived.Test.YtmdbjoebcolcfaaGreatDoorBeh
import Derived.Deep.DeepAppendRoom
import Derived.OwnWalk
import Derived.Maps.AppendAt
import Derived.Laws.AppendOwnNone
namespace Go.Proofs.YtmdbjoebcolcfaaGreatDoor.Flt
open Go Go.RowKit Go.Proofs.YtmdbjoebcolcfaaGreatDoor.Kb

theorem markNodes_any (k i : Int) (w : World) (hk0 : 0 ≤ k) (hk : k ≤ 1000) (hi0 : 0 ≤ i) (hi : i ≤ 1000000) :
    Calls Tryz.prog 119 #[.int .i64 k, .int .i64 i] w fun e w' => e = .returned (.agg #[.int .u8 0, .string ⟨#[]⟩, .string ⟨#[]⟩, .int .i64 (mkI k i)]) ∧ Below w.heap.size w w' := by
  go_enter Tryz.func119, Tryz.ntmps119
  go_wp2_with (fail)
  refine (mark_any _ _ _ hk0 hk hi0 hi).mono ?_; rintro e w' ⟨rfl, rfl⟩
  go_wp2_with (fail)
  refine bodyPost_ret (v := .agg #[.int .u8 0, .string ⟨#[]⟩, .string ⟨#[]⟩, .int .i64 (mkI k i)]) (by simp [results, Tryz.results119, go_sem]) rfl ⟨rfl, ?_⟩
  exact (Below.refl _ _).alloc (Nat.le_refl _) _
theorem eqgM_Nodes : Tryz.prog.eqGuardType Tryz.prog.depth 39 = false := by kernel_rfl
/-- two nodes are alike -/
theorem eql_node (k : Int) (s t : ByteArray) (p : Int) (w : World) : (binOp .eql 39 (.agg #[.int .u8 k, .string s, .string t, .int .i64 p]) (.agg #[.int .u8 k, .string s, .string t, .int .i64 p])).run Tryz.prog w = .ok (.bool true) w := by
  have u0 := Tryz.underlying37
  have u1 := Tryz.underlying9
  have u3 := Tryz.underlying3
  have a0 := Tryz.isAgg37
  have a1 := Tryz.isAgg9
  have a3 := Tryz.isAgg3
  have hS : Tryz.prog.underlying 39 = some (.struct (Tryz.prog.fieldsOf 39)) := by kernel_rfl
  rw [run_eql_struct, show (10000 : Nat) = 9999 + 1 from rfl, run_equalIn_agg w 9999 39 _ _ hS (by kernel_rfl)]
  simp only [Program.fieldsOf, Tryz.underlying39]
  go_simp
  try simp
end Go.Proofs.YtmdbjoebcolcfaaGreatDoor.Flt
namespace Go.Proofs.YtmdbjoebcolcfaaGreatDoor.Wtr
open Go Go.RowKit Go.Proofs.YtmdbjoebcolcfaaGreatDoor.Kb Go.Proofs.YtmdbjoebcolcfaaGreatDoor.Flt

def mkN (k i : Nat) : Ptr.Nd := (0, [], [], mkI k i)
/-- so many marks -/
def marksN (k n : Nat) : List Ptr.Nd := (List.range n).map (mkN k)
theorem marksN_succ (k n : Nat) : marksN k (n + 1) = marksN k n ++ [mkN k n] := by simp [marksN, List.range_succ]
theorem marksN_len (k n : Nat) : (marksN k n).length = n := by simp [marksN]
set_option maxRecDepth 100000 in
/-- 'm...' behind a row of the call's own that has room -/
theorem wpList_append_room_nodes {ops : Array Oper} {rest : List Oper} {o : Oper} {a : Act} {Q : Exit → Act → World → Prop} {w : World} (hgd : o.guard = none) (s x : Operand)
    (ho : o.op = .call { callee := .builtin .append, args := #[s, x], argTypes := #[23, 23] }) (base g n cap : Nat) (xs : List Value) (hs : a.eval s = .slice (some ⟨g, 0, none⟩) n cap)
    (hown : w.ownsRow base 39 4 (.slice (some ⟨g, 0, none⟩) n cap) n xs) (A : Option Addr) (c : Nat) (m : List Ptr.Nd) (hx : a.eval x = .slice A m.length c) (hr : RdN w A m) (hc : A = none → c = 0) (hroom : n + m.length ≤ cap)
    (h : ∀ w', w'.ownsRow base 39 4 (.slice (some ⟨g, 0, none⟩) (n + m.length) cap) (n + m.length) (xs ++ ndsC m) → w.grownBy w' (some g) → wpList Tryz.prog ops Q rest (a.put o.dst (.slice (some ⟨g, 0, none⟩) (n + m.length) cap)) w') : wpList Tryz.prog ops Q (o :: rest) a w := by
  obtain ⟨i0, hi, hz0, hz1, hz2⟩ := info_parts infoN
  cases A with
  | none =>
    have hm : m = [] := by
      apply Classical.byContradiction
      intro hne
      obtain ⟨b, off, hA, _⟩ := hr hne
      cases hA
    subst hm
    rw [hc rfl] at hx
    have h' := h w (by simpa [ndsC] using hown) (World.grownBy.refl _ _)
    simp only [List.length_nil, Nat.add_zero] at h'
    exact wpList_append_own_none hgd s x _ ho base _ i0 4 Tryz.underlying23 hi _ _ _ hs hown hx h'
  | some ad =>
    have c2 : ∀ j u, (ndsC m)[j]? = some u → w.cell? (ad.add j) = some u := by
      intro j u hu
      have hj : j < m.length * 4 := by rw [← ndsC_length]; exact (List.getElem?_eq_some_iff.1 hu).1
      obtain ⟨b, off, hA, hcell⟩ := hr (by intro e; subst e; simp at hj)
      injection hA with hA
      subst hA
      have hq : j / 4 < m.length := by omega
      have hx2 := hcell (j / 4) _ (List.getElem?_eq_getElem hq)
      have hg := ndsC_get m (j / 4) _ (j % 4) (List.getElem?_eq_getElem hq) (by omega)
      rw [show j / 4 * 4 + j % 4 = j by omega, hu] at hg
      rw [addr_add]
      obtain ⟨d0, d1, d2, d3⟩ := hx2
      have h4 : j % 4 = 0 ∨ j % 4 = 1 ∨ j % 4 = 2 ∨ j % 4 = 3 := by omega
      rcases h4 with h4 | h4 | h4 | h4
      · rw [h4] at hg
        rw [show off + j = off + j / 4 * 4 by omega, d0]
        exact hg.symm
      · rw [h4] at hg
        rw [show off + j = off + j / 4 * 4 + 1 by omega, d1]
        exact hg.symm
      · rw [h4] at hg
        rw [show off + j = off + j / 4 * 4 + 2 by omega, d2]
        exact hg.symm
      · rw [h4] at hg
        rw [show off + j = off + j / 4 * 4 + 3 by omega, d3]
        exact hg.symm
    exact wpList_append_own_spare _ hgd s x _ ho base _ i0 4 Tryz.underlying23 hi hz1 g n cap xs hs hown ad m.length c (ndsC m) hx (by rw [ndsC_length]) c2 (ndsC_one m) hroom h
theorem grown_low' {w w1 : World} {B g : Nat} {wx : World} (h : Below B w wx) (hg : wx.grownBy w1 (some g)) (hB : B ≤ g) (hs : B ≤ wx.heap.size) : Below B w w1 :=
  Below.grown h hg hs (fun b hb => by cases hb; exact hB)
theorem rdn_lent {w : World} {base g : Nat} {l : List Ptr.Nd} (h : w.ownsRow base 39 4 (.slice (some ⟨g, 0, none⟩) (l.length + 12) (l.length + 12)) (l.length + 12) (ndsC (l ++ marksN 1 12))) : RdN w (some ⟨g, 0, none⟩) (l ++ marksN 1 12) := by
  have h2 : w.ownsRow base 39 4 (.slice (some ⟨g, 0, none⟩) (l ++ marksN 1 12).length (l.length + 12)) (l ++ marksN 1 12).length (ndsC (l ++ marksN 1 12)) := by
    rw [List.length_append, marksN_len]; exact h
  exact rdn_of_own h2
theorem rdn_left {w : World} {A : Option Addr} {l m : List Ptr.Nd} (h : RdN w A (l ++ m)) : RdN w A l := by
  intro hne
  obtain ⟨b, off, hA, hc⟩ := h (by simp [hne])
  refine ⟨b, off, hA, fun j x hx => hc j x ?_⟩
  rw [List.getElem?_append_left (List.getElem?_eq_some_iff.1 hx).1]
  exact hx
end Go.Proofs.YtmdbjoebcolcfaaGreatDoor.Wtr
