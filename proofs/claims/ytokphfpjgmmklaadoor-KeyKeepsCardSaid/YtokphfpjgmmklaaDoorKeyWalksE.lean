/- The walks over PutInt and GetInt. -/
import Derived.Test.YtokphfpjgmmklaaDoorKeyWalksD
import Derived.LoopN
namespace Go.Proofs.YtokphfpjgmmklaaDoor.Wk
open Go Go.RowKit Go.Proofs.YtokphfpjgmmklaaDoor.Kb

theorem xor_top (a : Nat) (h : a < 18446744073709551616) : a ^^^ 9223372036854775808 = (a + 9223372036854775808) % 18446744073709551616 := by
  have h1 : (a ^^^ 9223372036854775808) % 2 ^ 63 = a % 2 ^ 63 ^^^ 9223372036854775808 % 2 ^ 63 := Nat.xor_mod_two_pow
  have h2 : (a ^^^ 9223372036854775808) / 2 ^ 63 = a / 2 ^ 63 ^^^ 9223372036854775808 / 2 ^ 63 := Nat.xor_div_two_pow
  have e1 : 9223372036854775808 % 2 ^ 63 = 0 := by decide
  have e2 : 9223372036854775808 / 2 ^ 63 = 1 := by decide
  rw [e1, Nat.xor_zero] at h1
  rw [e2] at h2
  have p63 : 2 ^ 63 = 9223372036854775808 := by decide
  rw [p63] at h1 h2
  by_cases hq : a < 9223372036854775808
  · have : a / 9223372036854775808 = 0 := by omega
    rw [this] at h2
    have e3 : (0 : Nat) ^^^ 1 = 1 := by decide
    rw [e3] at h2
    omega
  · have : a / 9223372036854775808 = 1 := by omega
    rw [this] at h2
    have e3 : (1 : Nat) ^^^ 1 = 0 := by decide
    rw [e3] at h2
    omega
theorem xor_off (n : Int) (h0 : -9223372036854775808 ≤ n) (h1 : n ≤ 9223372036854775807) : bits BinOp.xor IntKind.u64 (IntKind.u64.wrap n) 9223372036854775808 = (Pk.offN n : Int) := by
  obtain ⟨a, ha, hlt⟩ : ∃ a : Nat, IntKind.u64.wrap n = (a : Int) ∧ a < 18446744073709551616 := by
    refine ⟨(IntKind.u64.wrap n).toNat, ?_, ?_⟩ <;> rw [IntKind.wrap_u64] <;> omega
  have hb := u64_xor_nat a 9223372036854775808 hlt (by omega)
  rw [ha]
  refine hb.trans ?_
  rw [xor_top a hlt]
  rw [IntKind.wrap_u64] at ha
  unfold Pk.offN
  omega
theorem off_lt (n : Int) (h0 : -9223372036854775808 ≤ n) (h1 : n ≤ 9223372036854775807) : Pk.offN n < 18446744073709551616 := by unfold Pk.offN; omega
theorem u8_cells (U : Nat) (h : U < 18446744073709551616) : bc (Pk.u8L U) = [Value.int .u8 ((U : Int) / 72057594037927936), .int .u8 ((U : Int) / 281474976710656 % 256), .int .u8 ((U : Int) / 1099511627776 % 256), .int .u8 ((U : Int) / 4294967296 % 256), .int .u8 ((U : Int) / 16777216 % 256), .int .u8 ((U : Int) / 65536 % 256), .int .u8 ((U : Int) / 256 % 256), .int .u8 ((U : Int) % 256)] := by
  have tb : ∀ k : Nat, ((k.toUInt8).toNat : Int) = (k : Int) % 256 := fun k => by simp [Nat.toUInt8]
  simp only [bc, Pk.u8L, List.map_cons, List.map_nil, tb]
  have e : ((U / 72057594037927936 : Nat) : Int) % 256 = (U : Int) / 72057594037927936 := by omega
  rw [e]
  simp only [Int.natCast_ediv]
  rfl
theorem one_u8 (x : Int) : ∀ u ∈ [Value.int .u8 x], u.oneCell' = true := by
  intro u hu
  simp only [List.mem_singleton] at hu
  subst hu
  rfl
set_option maxRecDepth 100000 in
set_option maxHeartbeats 2000000 in
theorem putInt_any (n : Int) (w : World) (h0 : -9223372036854775808 ≤ n) (h1 : n ≤ 9223372036854775807) :
    Calls Tryd.prog 14 #[.int .i64 n] w (Made w (Pk.putInt n)) := by
  have hmk : ∀ w, (Instr.makeSlice 22 (.int .i64 8) (.int .i64 8)).run Tryd.prog w = .ok (.slice (some ⟨w.heap.size, 0, none⟩) 8 8) (w.alloc (.cells #[.int .u8 0, .int .u8 0, .int .u8 0, .int .u8 0, .int .u8 0, .int .u8 0, .int .u8 0, .int .u8 0] 5)) := fun _ => by kernel_rfl
  have hU := xor_off n h0 h1
  have hlt := off_lt n h0 h1
  unfold Pk.putInt
  generalize Pk.offN n = U at hU hlt
  go_enter Tryd.func14, Tryd.ntmps14
  go_wp2
  clear hU h0 h1
  have u0 : (0 : Int) ≤ (U : Int) := by omega
  have u1 : (U : Int) < 18446744073709551616 := by omega
  refine wp_loop_rounds 9 ?_
  iterate 9 (rw [rounds_succ]; go_wp2)
  go_ret
  clear hmk
  go_light
  refine ⟨_, rfl, ?_, by go_grown⟩
  rw [u8_cells U hlt]
  exact World.ownsRow_lit w _ 8 (Nat.le_refl _) (by decide) rfl
theorem add_off (n : Int) (h0 : -9223372036854775808 ≤ n) (h1 : n ≤ 9223372036854775807) : IntKind.u64.wrap (IntKind.u64.wrap n + 9223372036854775808) = (Pk.offN n : Int) := by
  rw [IntKind.wrap_u64, IntKind.wrap_u64]
  unfold Pk.offN
  omega
set_option maxRecDepth 100000 in
set_option maxHeartbeats 4000000 in
theorem refPutInt_any (n : Int) (w : World) (h0 : -9223372036854775808 ≤ n) (h1 : n ≤ 9223372036854775807) :
    Calls Tryd.prog 15 #[.int .i64 n] w (Made w (Pk.putInt n)) := by
  obtain ⟨i0, hi, hz0, hz1, hz2⟩ := info_parts infoB
  have hU := add_off n h0 h1
  have hlt := off_lt n h0 h1
  unfold Pk.putInt
  generalize Pk.offN n = U at hU hlt
  go_enter Tryd.func15, Tryd.ntmps15
  go_wp2
  clear hU h0 h1
  have u0 : (0 : Int) ≤ (U : Int) := by omega
  have u1 : (U : Int) < 18446744073709551616 := by omega
  have own0 : w.ownsRow w.heap.size 5 1 (.slice none 0 0) 0 [] := World.ownsRow_nil _ _ _ _
  have b0 : Below w.heap.size w w := Below.refl _ _
  refine wp_loop_rounds 9 ?_
  have z0 : w.heap.size ≤ (w.alloc (.cells #[.int .u8 ((U : Int) / 72057594037927936)] 5)).heap.size := by have := b0.size; rw [World.size_alloc]; omega
  rw [rounds_succ]
  go_wp2_with (at_builtin; refine wpList_append_own _ rfl (.tmp 13) (.tmp 20) 22 rfl w.heap.size 5 i0 (.int .u8 0) 1 1 Tryd.underlying22 hi hz0 hz1 hz2 rfl (by decide) _ _ _ rfl (own0.alloc _) ⟨w.heap.size, 0, none⟩ 1 1 [.int .u8 ((U : Int) / 72057594037927936)] rfl rfl (cell_one_new _ _ _) (one_u8 _) (by decide) (by decide) z0 ?_; intro v1 w1 own1 g1 _)
  have b1 := below_grew b0 own0 g1
  clear own0 g1 z0
  have z1 : w.heap.size ≤ (w1.alloc (.cells #[.int .u8 ((U : Int) / 281474976710656 % 256)] 5)).heap.size := by have := b1.size; rw [World.size_alloc]; omega
  rw [rounds_succ]
  go_wp2_with (at_builtin; refine wpList_append_own _ rfl (.tmp 13) (.tmp 20) 22 rfl w.heap.size 5 i0 (.int .u8 0) 1 1 Tryd.underlying22 hi hz0 hz1 hz2 rfl (by decide) _ _ _ rfl (own1.alloc _) ⟨w1.heap.size, 0, none⟩ 1 1 [.int .u8 ((U : Int) / 281474976710656 % 256)] rfl rfl (cell_one_new _ _ _) (one_u8 _) (by decide) (by decide) z1 ?_; intro v2 w2 own2 g2 _)
  have b2 := below_grew b1 own1 g2
  clear own1 g2 z1
  have z2 : w.heap.size ≤ (w2.alloc (.cells #[.int .u8 ((U : Int) / 1099511627776 % 256)] 5)).heap.size := by have := b2.size; rw [World.size_alloc]; omega
  rw [rounds_succ]
  go_wp2_with (at_builtin; refine wpList_append_own _ rfl (.tmp 13) (.tmp 20) 22 rfl w.heap.size 5 i0 (.int .u8 0) 1 1 Tryd.underlying22 hi hz0 hz1 hz2 rfl (by decide) _ _ _ rfl (own2.alloc _) ⟨w2.heap.size, 0, none⟩ 1 1 [.int .u8 ((U : Int) / 1099511627776 % 256)] rfl rfl (cell_one_new _ _ _) (one_u8 _) (by decide) (by decide) z2 ?_; intro v3 w3 own3 g3 _)
  have b3 := below_grew b2 own2 g3
  clear own2 g3 z2
  have z3 : w.heap.size ≤ (w3.alloc (.cells #[.int .u8 ((U : Int) / 4294967296 % 256)] 5)).heap.size := by have := b3.size; rw [World.size_alloc]; omega
  rw [rounds_succ]
  go_wp2_with (at_builtin; refine wpList_append_own _ rfl (.tmp 13) (.tmp 20) 22 rfl w.heap.size 5 i0 (.int .u8 0) 1 1 Tryd.underlying22 hi hz0 hz1 hz2 rfl (by decide) _ _ _ rfl (own3.alloc _) ⟨w3.heap.size, 0, none⟩ 1 1 [.int .u8 ((U : Int) / 4294967296 % 256)] rfl rfl (cell_one_new _ _ _) (one_u8 _) (by decide) (by decide) z3 ?_; intro v4 w4 own4 g4 _)
  have b4 := below_grew b3 own3 g4
  clear own3 g4 z3
  have z4 : w.heap.size ≤ (w4.alloc (.cells #[.int .u8 ((U : Int) / 16777216 % 256)] 5)).heap.size := by have := b4.size; rw [World.size_alloc]; omega
  rw [rounds_succ]
  go_wp2_with (at_builtin; refine wpList_append_own _ rfl (.tmp 13) (.tmp 20) 22 rfl w.heap.size 5 i0 (.int .u8 0) 1 1 Tryd.underlying22 hi hz0 hz1 hz2 rfl (by decide) _ _ _ rfl (own4.alloc _) ⟨w4.heap.size, 0, none⟩ 1 1 [.int .u8 ((U : Int) / 16777216 % 256)] rfl rfl (cell_one_new _ _ _) (one_u8 _) (by decide) (by decide) z4 ?_; intro v5 w5 own5 g5 _)
  have b5 := below_grew b4 own4 g5
  clear own4 g5 z4
  have z5 : w.heap.size ≤ (w5.alloc (.cells #[.int .u8 ((U : Int) / 65536 % 256)] 5)).heap.size := by have := b5.size; rw [World.size_alloc]; omega
  rw [rounds_succ]
  go_wp2_with (at_builtin; refine wpList_append_own _ rfl (.tmp 13) (.tmp 20) 22 rfl w.heap.size 5 i0 (.int .u8 0) 1 1 Tryd.underlying22 hi hz0 hz1 hz2 rfl (by decide) _ _ _ rfl (own5.alloc _) ⟨w5.heap.size, 0, none⟩ 1 1 [.int .u8 ((U : Int) / 65536 % 256)] rfl rfl (cell_one_new _ _ _) (one_u8 _) (by decide) (by decide) z5 ?_; intro v6 w6 own6 g6 _)
  have b6 := below_grew b5 own5 g6
  clear own5 g6 z5
  have z6 : w.heap.size ≤ (w6.alloc (.cells #[.int .u8 ((U : Int) / 256 % 256)] 5)).heap.size := by have := b6.size; rw [World.size_alloc]; omega
  rw [rounds_succ]
  go_wp2_with (at_builtin; refine wpList_append_own _ rfl (.tmp 13) (.tmp 20) 22 rfl w.heap.size 5 i0 (.int .u8 0) 1 1 Tryd.underlying22 hi hz0 hz1 hz2 rfl (by decide) _ _ _ rfl (own6.alloc _) ⟨w6.heap.size, 0, none⟩ 1 1 [.int .u8 ((U : Int) / 256 % 256)] rfl rfl (cell_one_new _ _ _) (one_u8 _) (by decide) (by decide) z6 ?_; intro v7 w7 own7 g7 _)
  have b7 := below_grew b6 own6 g7
  clear own6 g7 z6
  have z7 : w.heap.size ≤ (w7.alloc (.cells #[.int .u8 ((U : Int) % 256)] 5)).heap.size := by have := b7.size; rw [World.size_alloc]; omega
  rw [rounds_succ]
  go_wp2_with (at_builtin; refine wpList_append_own _ rfl (.tmp 13) (.tmp 20) 22 rfl w.heap.size 5 i0 (.int .u8 0) 1 1 Tryd.underlying22 hi hz0 hz1 hz2 rfl (by decide) _ _ _ rfl (own7.alloc _) ⟨w7.heap.size, 0, none⟩ 1 1 [.int .u8 ((U : Int) % 256)] rfl rfl (cell_one_new _ _ _) (one_u8 _) (by decide) (by decide) z7 ?_; intro v8 w8 own8 g8 _)
  have b8 := below_grew b7 own7 g8
  clear own7 g8 z7
  rw [rounds_succ]
  go_wp2
  go_ret
  go_light
  refine ⟨_, rfl, ?_, b8⟩
  rw [u8_cells U hlt]
  exact own8
end Go.Proofs.YtokphfpjgmmklaaDoor.Wk
