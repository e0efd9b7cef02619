/- The walks over the kit's SameTokens, CopyTokens and bare. -/
import Derived.Test.YtfamljigcffngaaDoorLexAwake
import Derived.Laws.StructEq
namespace Go.Proofs.YtfamljigcffngaaDoor.Wlx
open Go Go.RowKit Go.Proofs.YtfamljigcffngaaDoor.Wch

theorem eq_tok (k : Int) (s : ByteArray) (n a : Int) (w : World) : (Op.equalIn 10000 24 (.agg #[.int .u8 k, .string s, .int .i64 n, .int .i64 a]) (.agg #[.int .u8 k, .string s, .int .i64 n, .int .i64 a])).run Tryd.prog w = .ok true w := by
  have u0 := Tryd.underlying22
  have u1 := Tryd.underlying9
  have u2 := Tryd.underlying2
  have u3 := Tryd.underlying3
  have a0 := Tryd.isAgg22
  have a1 := Tryd.isAgg9
  have a2 := Tryd.isAgg2
  have a3 := Tryd.isAgg3
  have hS : Tryd.prog.underlying 24 = some (.struct (Tryd.prog.fieldsOf 24)) := by kernel_rfl
  rw [show (10000 : Nat) = 9999 + 1 from rfl, run_equalIn_agg w 9999 24 _ _ hS (by kernel_rfl)]
  simp only [Program.fieldsOf, Tryd.underlying24]
  go_simp
  try simp
theorem neq_tok (k : Int) (s : ByteArray) (n a : Int) (w : World) : (binOp .neq 24 (.agg #[.int .u8 k, .string s, .int .i64 n, .int .i64 a]) (.agg #[.int .u8 k, .string s, .int .i64 n, .int .i64 a])).run Tryd.prog w = .ok (.bool false) w := by
  rw [run_neq_struct, eq_tok]
  rfl
set_option maxRecDepth 100000 in
set_option maxHeartbeats 1000000 in
theorem same_any (A B : Option Addr) (l : List (Plx.Tok × Nat)) (c d : Nat) (w : World) (ha : RdT w A l) (hb : RdT w B l) (hl : l.length ≤ 100000000) :
    Calls Tryd.prog 11 #[.slice A l.length c, .slice B l.length d] w fun e w' => e = .returned (.bool true) ∧ Below w.heap.size w w' := by
  have HA := Kept.mk ha
  have HB := Kept.mk hb
  clear ha hb
  go_enter Tryd.func11, Tryd.ntmps11
  go_wp2
  go_loopw [5] (fun i wx => ∃ k : Nat, k ≤ l.length ∧ i = .int .i64 k ∧ Below w.heap.size w wx) (fun i _ => l.length - (intOf i).toNat)
  case atStart => exact ⟨0, by omega, rfl, Below.refl _ _⟩
  case round =>
    obtain ⟨k, hk, rfl, hw⟩ := hrel
    by_cases hlt : k < l.length
    · obtain ⟨x, hx⟩ : ∃ x, l[k]? = some x := ⟨l[k]'hlt, List.getElem?_eq_getElem hlt⟩
      obtain ⟨b, off, rfl, hc⟩ := (HA.out.below hw) (by intro e; subst e; simp at hlt)
      obtain ⟨b2, off2, rfl, hc2⟩ := (HB.out.below hw) (by intro e; subst e; simp at hlt)
      obtain ⟨c0, c1, c2, c3⟩ := hc k x hx
      obtain ⟨d0, d1, d2, d3⟩ := hc2 k x hx
      have i0 : (0 : Int) ≤ (k : Int) := by omega
      have i1 : (k : Int) < (l.length : Int) := by omega
      clear hc hc2 hx
      have hE := neq_tok x.1.1 ⟨x.1.2.1.toArray⟩ x.1.2.2 x.2
      go_wp2
      go_region
      go_wp2
      go_roundw
      case rel => exact ⟨k + 1, by omega, by go_num, hw.drew⟩
      case measure => simp [intOf]; omega
    · obtain rfl : k = l.length := by omega
      go_wp2
      go_ret
      exact ⟨rfl, hw⟩
end Go.Proofs.YtfamljigcffngaaDoor.Wlx
