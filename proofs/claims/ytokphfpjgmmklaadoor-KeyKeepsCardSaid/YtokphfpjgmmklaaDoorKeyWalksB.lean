/- The walks over the document's PutBytes, and over SameBytes. -/
import Derived.Test.YtokphfpjgmmklaaDoorKeyWalksA
import Derived.WalkSmall
import Derived.WalkSpells
namespace Go.Proofs.YtokphfpjgmmklaaDoor.Wk
open Go Go.RowKit Go.Proofs.YtokphfpjgmmklaaDoor.Kb

theorem rd_cell {w : World} {b off : Nat} {l : List UInt8} (h : Rd w (some ⟨b, off, none⟩) l) {k : Nat} (hk : k < l.length) : w.cell? ⟨b, off + k, none⟩ = some (.int .u8 ((l.getD k 0).toNat : Int)) := by
  obtain ⟨b', off', e, hc⟩ := h.at_ hk
  cases e
  exact hc
theorem byte_ne {x : UInt8} (h : x ≠ 0) : ((x.toNat : Int) == 0) = false := by
  have : x.toNat ≠ 0 := fun e => h (by
    apply UInt8.toNat_inj.1
    simpa using e)
  simp
  omega
set_option maxRecDepth 100000 in
set_option maxHeartbeats 1000000 in
theorem refPutBytes_any (A : Option Addr) (l : List UInt8) (c : Nat) (w : World) (hr : Rd w A l) (hl : l.length ≤ 1000000) :
    Calls Tryd.prog 19 #[.slice A l.length c] w (Made w (Pk.putL l)) := by
  obtain ⟨i0, hi, hz0, hz1, hz2⟩ := info_parts infoB
  have HR := Lib.hid hr
  clear hr
  go_enter Tryd.func19, Tryd.ntmps19
  go_wp2
  go_loopw [3, 4] (fun v i wr => ∃ k : Nat, k ≤ l.length ∧ i = .int .i64 k ∧ wr.ownsRow w.heap.size 5 1 v (Pk.putG (l.take k)).length (bc (Pk.putG (l.take k))) ∧ Below w.heap.size w wr) (fun _ i _ => l.length - (intOf i).toNat)
  case atStart => exact ⟨0, Nat.zero_le _, rfl, World.ownsRow_nil _ _ _ _, Below.refl _ _⟩
  case round =>
    obtain ⟨k, hk, rfl, hown, hb⟩ := hrel
    have hz := hb.size
    by_cases hlt : k < l.length
    · have hat := (HR.out.below hb).at_ hlt
      have HR2 := Lib.hid (HR.out.below hb)
      obtain ⟨b, off, rfl, hcell⟩ := hat
      have hn := take_len l k hk
      have HS := Lib.hid (take_step l k hlt)
      generalize hx : l.getD k 0 = x at hcell HS
      have HX := Lib.hid hx
      clear hx
      generalize hg : Pk.putG (l.take k) = g at hown hn HS
      clear hg
      have d4 : g.length + 1 ≤ maxLen := by unfold maxLen; omega
      have d5 : (g.length + 1) * 1 ≤ 140737488355328 := by omega
      have d6 : w.heap.size ≤ (wr.alloc (.cells #[Value.int .u8 (x.toNat : Int)] 5)).heap.size := by simp; omega
      have L1 : Hid (∀ j u, [Value.int .u8 (x.toNat : Int)][j]? = some u → (wr.alloc (.cells #[Value.int .u8 (x.toNat : Int)] 5)).cell? ((⟨wr.heap.size, 0, none⟩ : Addr).add j) = some u) := cell_one_new _ _ _
      have L2 : Hid (∀ u ∈ [Value.int .u8 (x.toNat : Int)], u.oneCell' = true) := bc_oneCell [x]
      go_upto_region 6 with (at_builtin; refine wpList_append_own _ rfl (.tmp 11) (.tmp 16) 22 rfl w.heap.size 5 i0 (.int .u8 0) 1 1 Tryd.underlying22 hi hz0 hz1 hz2 rfl (by decide) _ _ _ rfl (hown.alloc _) ⟨wr.heap.size, 0, none⟩ 1 1 [.int .u8 (x.toNat : Int)] rfl rfl L1.out L2.out d4 d5 d6 ?_; intro v' w1 hown1 hgrow1 _)
      have hb1 := below_grew hb hown hgrow1
      have hc1 := rd_cell (HR.out.below hb1) hlt
      rw [HX.out] at hc1
      have hz1' := hb1.size
      clear hcell hgrow1 L1 L2 d4 d5 d6 hown HR2 HX hb hz
      have hown2 : w1.ownsRow w.heap.size 5 1 v' (g ++ [x]).length (bc (g ++ [x])) := by rw [List.length_append, bc_append]; exact hown1
      clear hown1
      by_cases h0 : x = 0
      · subst h0
        have hp : Pk.putC 0 = [0, 255] := rfl
        have hc0 : w1.cell? ⟨b, off + k, none⟩ = some (.int .u8 0) := hc1
        have d4 : (g ++ [0]).length + 1 ≤ maxLen := by unfold maxLen; simp; omega
        have d5 : ((g ++ [0]).length + 1) * 1 ≤ 140737488355328 := by simp; omega
        have d6 : w.heap.size ≤ (w1.alloc (.cells #[Value.int .u8 255] 5)).heap.size := by simp; omega
        have L1 : Hid (∀ j u, [Value.int .u8 255][j]? = some u → (w1.alloc (.cells #[Value.int .u8 255] 5)).cell? ((⟨w1.heap.size, 0, none⟩ : Addr).add j) = some u) := cell_one_new _ _ _
        have L2 : Hid (∀ u ∈ [Value.int .u8 255], u.oneCell' = true) := bc_oneCell [255]
        clear hc1
        go_wp2_with (at_builtin; refine wpList_append_own _ rfl (.tmp 23) (.tmp 24) 22 rfl w.heap.size 5 i0 (.int .u8 0) 1 1 Tryd.underlying22 hi hz0 hz1 hz2 rfl (by decide) _ _ _ rfl (hown2.alloc _) ⟨w1.heap.size, 0, none⟩ 1 1 [.int .u8 255] rfl rfl L1.out L2.out d4 d5 d6 ?_; intro v2 w2 hown3 hgrow2 _)
        have hb2 := below_grew hb1 hown2 hgrow2
        go_roundw
        case rel => exact ⟨k + 1, by omega, by go_num, by rw [HS.out, hp, show g ++ [0, 255] = (g ++ [0]) ++ [255] by simp, bc_append, List.length_append]; exact hown3, hb2⟩
        case measure => simp [intOf]; omega
      · have hx0 := byte_ne h0
        have hp : Pk.putC x = [x] := if_neg h0
        go_wp2
        go_roundw
        case rel => exact ⟨k + 1, by omega, by go_num, by rw [HS.out, hp]; exact hown2, hb1⟩
        case measure => simp [intOf]; omega
    · have hn := (Pk.putG_length l).2
      have e : Pk.putG (l.take k) = Pk.putG l := by rw [take_all l k hlt]
      rw [e] at hown
      clear e
      generalize hg : Pk.putG l = g at hown hn
      have HG := Lib.hid hg
      clear hg
      have d4 : g.length + 2 ≤ maxLen := by unfold maxLen; omega
      have d5 : (g.length + 2) * 1 ≤ 140737488355328 := by omega
      have d6 : w.heap.size ≤ (wr.alloc (.cells #[Value.int .u8 0, Value.int .u8 0] 5)).heap.size := by simp; omega
      have L1 : Hid (∀ j u, [Value.int .u8 0, Value.int .u8 0][j]? = some u → (wr.alloc (.cells #[Value.int .u8 0, Value.int .u8 0] 5)).cell? ((⟨wr.heap.size, 0, none⟩ : Addr).add j) = some u) := cell_two_new _ _ _ _
      have L2 : Hid (∀ u ∈ [Value.int .u8 0, Value.int .u8 0], u.oneCell' = true) := bc_oneCell [0, 0]
      go_wp2_with (at_builtin; refine wpList_append_own _ rfl (.tmp 26) (.tmp 27) 22 rfl w.heap.size 5 i0 (.int .u8 0) 1 1 Tryd.underlying22 hi hz0 hz1 hz2 rfl (by decide) _ _ _ rfl (hown.alloc _) ⟨wr.heap.size, 0, none⟩ 2 2 [.int .u8 0, .int .u8 0] rfl rfl L1.out L2.out d4 d5 d6 ?_; intro v2 w2 hown3 hgrow2 _)
      have hb2 := below_grew hb hown hgrow2
      go_ret
      refine ⟨v2, rfl, ?_, hb2⟩
      unfold Pk.putL
      rw [HG.out, bc_append, List.length_append]
      exact hown3
end Go.Proofs.YtokphfpjgmmklaaDoor.Wk
