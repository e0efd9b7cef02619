/- The walks over the kit's SameTokens, CopyTokens and bare. -/
import Derived.Test.YtfamljigcffngaaGreatDoorLexAwake
import Derived.Laws.StructEq
namespace Go.Proofs.YtfamljigcffngaaGreatDoor.Wlx
open Go Go.RowKit Go.Proofs.YtfamljigcffngaaGreatDoor.Wch

theorem eq_tok (k : Int) (s : ByteArray) (n a : Int) (w : World) : (Op.equalIn 10000 36 (.agg #[.int .u8 k, .string s, .int .i64 n, .int .i64 a]) (.agg #[.int .u8 k, .string s, .int .i64 n, .int .i64 a])).run Tryz.prog w = .ok true w := by
  have u0 := Tryz.underlying34
  have u1 := Tryz.underlying9
  have u2 := Tryz.underlying2
  have u3 := Tryz.underlying3
  have a0 := Tryz.isAgg34
  have a1 := Tryz.isAgg9
  have a2 := Tryz.isAgg2
  have a3 := Tryz.isAgg3
  have hS : Tryz.prog.underlying 36 = some (.struct (Tryz.prog.fieldsOf 36)) := by kernel_rfl
  rw [show (10000 : Nat) = 9999 + 1 from rfl, run_equalIn_agg w 9999 36 _ _ hS (by kernel_rfl)]
  simp only [Program.fieldsOf, Tryz.underlying36]
  go_simp
  try simp
theorem neq_tok (k : Int) (s : ByteArray) (n a : Int) (w : World) : (binOp .neq 36 (.agg #[.int .u8 k, .string s, .int .i64 n, .int .i64 a]) (.agg #[.int .u8 k, .string s, .int .i64 n, .int .i64 a])).run Tryz.prog w = .ok (.bool false) w := by
  rw [run_neq_struct, eq_tok]
  rfl
set_option maxRecDepth 100000 in
set_option maxHeartbeats 1000000 in
theorem same_any (A B : Option Addr) (l : List (Plx.Tok × Nat)) (c d : Nat) (w : World) (ha : RdT w A l) (hb : RdT w B l) (hl : l.length ≤ 100000000) :
    Calls Tryz.prog 7 #[.slice A l.length c, .slice B l.length d] w fun e w' => e = .returned (.bool true) ∧ Below w.heap.size w w' := by
  have HA := Kept.mk ha
  have HB := Kept.mk hb
  clear ha hb
  go_enter Tryz.func7, Tryz.ntmps7
  go_wp2
  go_loopw [5] (fun i wx => ∃ k : Nat, k ≤ l.length ∧ i = .int .i64 k ∧ Below w.heap.size w wx) (fun i _ => l.length - (intOf i).toNat)
  case atStart => exact ⟨0, by omega, rfl, Below.refl _ _⟩
  case round =>
    obtain ⟨k, hk, rfl, hw⟩ := hrel
    by_cases hlt : k < l.length
    · obtain ⟨x, hx⟩ : ∃ x, l[k]? = some x := ⟨l[k]'hlt, List.getElem?_eq_getElem hlt⟩
      obtain ⟨b, off, rfl, hc⟩ := (HA.out.below hw) (by intro e; subst e; simp at hlt)
      obtain ⟨b2, off2, rfl, hc2⟩ := (HB.out.below hw) (by intro e; subst e; simp at hlt)
      obtain ⟨c0, c1, c2, c3⟩ := hc k x hx
      obtain ⟨d0, d1, d2, d3⟩ := hc2 k x hx
      have i0 : (0 : Int) ≤ (k : Int) := by omega
      have i1 : (k : Int) < (l.length : Int) := by omega
      clear hc hc2 hx
      have hE := neq_tok x.1.1 ⟨x.1.2.1.toArray⟩ x.1.2.2 x.2
      go_wp2
      go_region
      go_wp2
      go_roundw
      case rel => exact ⟨k + 1, by omega, by go_num, hw.drew⟩
      case measure => simp [intOf]; omega
    · obtain rfl : k = l.length := by omega
      go_wp2
      go_ret
      exact ⟨rfl, hw⟩
end Go.Proofs.YtfamljigcffngaaGreatDoor.Wlx
