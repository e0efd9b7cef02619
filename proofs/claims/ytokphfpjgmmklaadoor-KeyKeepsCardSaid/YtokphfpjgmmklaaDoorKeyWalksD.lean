/- The walks over GetBytes, the program's and the document's. -/
import Derived.Test.YtokphfpjgmmklaaDoorKeyWalksC
namespace Go.Proofs.YtokphfpjgmmklaaDoor.Wk
open Go Go.RowKit Go.Proofs.YtokphfpjgmmklaaDoor.Kb

/-- what GetBytes hands back -/
def Got (w : World) (ans : Option (List UInt8 × Nat)) (e : Ending) (w' : World) : Prop :=
  match ans with
  | none => e = .returned (.tuple #[.slice none 0 0, .int .i64 0, .bool false]) ∧ Below w.heap.size w w'
  | some x => ∃ v', e = .returned (.tuple #[v', .int .i64 (x.2 : Int), .bool true]) ∧ w'.ownsRow w.heap.size 5 1 v' x.1.length (bc x.1) ∧ Below w.heap.size w w'
theorem got_some {w w' : World} {v : Value} {ys : List UInt8} {n : Nat} (h : w'.ownsRow w.heap.size 5 1 v ys.length (bc ys)) (hb : Below w.heap.size w w') : Got w (some (ys, n)) (.returned (.tuple #[v, .int .i64 (n : Int), .bool true])) w' := ⟨v, rfl, h, hb⟩
theorem got_none {w w' : World} (hb : Below w.heap.size w w') : Got w none (.returned (.tuple #[.slice none 0 0, .int .i64 0, .bool false])) w' := ⟨rfl, hb⟩
def onto (ys : List UInt8) (k : Nat) (r : Option (List UInt8 × Nat)) : Option (List UInt8 × Nat) := r.map fun x => (ys ++ x.1, k + x.2)
theorem onto_nil (r : Option (List UInt8 × Nat)) : onto [] 0 r = r := by
  unfold onto
  cases r with
  | none => rfl
  | some x => simp
theorem onto_map (ys : List UInt8) (k : Nat) (r : Option (List UInt8 × Nat)) (a : UInt8) (n : Nat) : onto ys k (r.map fun x => (a :: x.1, x.2 + n)) = onto (ys ++ [a]) (k + n) r := by
  unfold onto
  cases r with
  | none => rfl
  | some x => simp; omega
theorem get_step (l : List UInt8) (k : Nat) (h : k + 1 < l.length) : Pk.getL (l.drop k) =
    if l.getD k 0 ≠ 0 then (Pk.getL (l.drop (k + 1))).map fun x => (l.getD k 0 :: x.1, x.2 + 1)
    else if l.getD (k + 1) 0 = 0 then some ([], 2) else if l.getD (k + 1) 0 = 255 then (Pk.getL (l.drop (k + 2))).map fun x => (0 :: x.1, x.2 + 2) else none := by
  rw [drop_step l k (by omega), drop_step l (k + 1) h, Pk.getL_step]
theorem get_end (l : List UInt8) (k : Nat) (h : ¬ k + 1 < l.length) : Pk.getL (l.drop k) = none := by
  have hl : (l.drop k).length ≤ 1 := by rw [List.length_drop]; omega
  match h' : l.drop k, hl with
  | [], _ => rfl
  | [a], _ => rfl
set_option maxRecDepth 100000 in
set_option maxHeartbeats 2000000 in
theorem getBytes_any (A : Option Addr) (l : List UInt8) (c : Nat) (w : World) (hr : Rd w A l) (hl : l.length ≤ 1000000) :
    Calls Tryd.prog 16 #[.slice A l.length c] w (Got w (Pk.getL l)) := by
  generalize hN : Pk.getL l = ANS
  have HN := Lib.hid hN
  have HR := Lib.hid hr
  clear hr hN
  go_enter Tryd.func16, Tryd.ntmps16
  go_wp2
  go_loopw [5, 6] (fun v i wr => ∃ (k : Nat) (ys : List UInt8), k ≤ l.length ∧ ys.length ≤ k ∧ i = .int .i64 k ∧ wr.ownsRow w.heap.size 5 1 v ys.length (bc ys) ∧ Below w.heap.size w wr ∧ Hid (onto ys k (Pk.getL (l.drop k)) = ANS)) (fun _ i _ => l.length - (intOf i).toNat)
  case atStart => exact ⟨0, [], Nat.zero_le _, Nat.le_refl _, rfl, World.ownsRow_nil _ _ _ _, Below.refl _ _, by show _ = _; rw [onto_nil]; exact HN.out⟩
  case round =>
    obtain ⟨k, ys, hk, hyk, rfl, hown, hb, H⟩ := hrel
    have hz := hb.size
    clear HN
    by_cases hlt : k + 1 < l.length
    · obtain ⟨b, off, rfl, hc0⟩ := (HR.out.below hb).at_ (k := k) (by omega)
      have hc1 := rd_cell (HR.out.below hb) hlt
      have h1 := H.out
      rw [get_step l k hlt] at h1
      generalize l.getD k 0 = x at hc0 h1
      generalize l.getD (k + 1) 0 = y at hc1 h1
      clear H
      by_cases h0 : x = 0
      · subst h0
        rw [if_neg (by simp)] at h1
        have hc0' : wr.cell? ⟨b, off + k, none⟩ = some (.int .u8 0) := hc0
        clear hc0
        by_cases hy0 : y = 0
        · subst hy0
          rw [if_pos rfl] at h1
          have hc1' : wr.cell? ⟨b, off + (k + 1), none⟩ = some (.int .u8 0) := hc1
          have H1 : Hid (some (ys, k + 2) = ANS) := by show _ = _; rw [← h1]; simp [onto]
          clear hc1 h1
          go_wp2
          obtain rfl := H1.out
          refine bodyPost_ret (v := .tuple #[_, .int .i64 ((k + 2 : Nat) : Int), .bool true]) (by simp [results, Tryd.results16, go_sem]) rfl (got_some (n := k + 2) hown hb)
        · have hyz := byte_ne hy0
          rw [if_neg hy0] at h1
          by_cases hyf : y = 255
          · subst hyf
            rw [if_pos rfl, onto_map] at h1
            have hc1' : wr.cell? ⟨b, off + (k + 1), none⟩ = some (.int .u8 255) := hc1
            have H1 := Lib.hid h1
            clear hc1 h1 hyz hy0
            go_wp2_with (go_at_call 28; refine (put_any w.heap.size _ _ [0] wr.heap.size 0 1 _ (hown.alloc _) (one_cell wr 0 _) (by simp; omega) (by simp; omega)).mono ?_; rintro e w1 ⟨v', rfl, hown1, hg1⟩)
            have hb1 := below_grew hb hown hg1
            go_roundw
            case rel => exact ⟨k + 2, ys ++ [0], by omega, by simp; omega, by go_num, by exact hown1, hb1, H1.out⟩
            case measure => simp [intOf]; omega
          · have hyf' : ((y.toNat : Int) == 255) = false := by
              have : y.toNat ≠ 255 := fun e => hyf (by
                apply UInt8.toNat_inj.1
                simpa using e)
              simp
              omega
            have hyf2 : ((y.toNat : Int) != 255) = true := by simpa using hyf'
            rw [if_neg hyf] at h1
            have H1 : Hid (none = ANS) := h1
            clear h1
            go_wp2
            obtain rfl := H1.out
            refine bodyPost_ret (v := .tuple #[.slice none 0 0, .int .i64 0, .bool false]) (by simp [results, Tryd.results16, go_sem]) rfl (got_none hb)
      · have hxz := byte_ne h0
        have hxz2 : ((x.toNat : Int) != 0) = true := by simpa using hxz
        rw [if_pos h0, onto_map] at h1
        have H1 := Lib.hid h1
        clear h1 hc1
        go_wp2_with (go_at_call 28; refine (put_any w.heap.size _ _ [x] wr.heap.size 0 1 _ (hown.alloc _) (one_cell wr x _) (by simp; omega) (by simp; omega)).mono ?_; rintro e w1 ⟨v', rfl, hown1, hg1⟩)
        have hb1 := below_grew hb hown hg1
        go_roundw
        case rel => exact ⟨k + 1, ys ++ [x], by omega, by simp; omega, by go_num, by exact hown1, hb1, H1.out⟩
        case measure => simp [intOf]; omega
    · have h1 := H.out
      rw [get_end l k hlt] at h1
      have H1 : Hid (none = ANS) := h1
      clear h1 H
      go_wp2
      obtain rfl := H1.out
      refine bodyPost_ret (v := .tuple #[.slice none 0 0, .int .i64 0, .bool false]) (by simp [results, Tryd.results16, go_sem]) rfl (got_none hb)
set_option maxRecDepth 100000 in
set_option maxHeartbeats 2000000 in
theorem refGetBytes_any (A : Option Addr) (l : List UInt8) (c : Nat) (w : World) (hr : Rd w A l) (hl : l.length ≤ 1000000) :
    Calls Tryd.prog 17 #[.slice A l.length c] w (Got w (Pk.getL l)) := by
  obtain ⟨i0, hi, hz0, hz1, hz2⟩ := info_parts infoB
  generalize hN : Pk.getL l = ANS
  have HN := Lib.hid hN
  have HR := Lib.hid hr
  clear hr hN
  go_enter Tryd.func17, Tryd.ntmps17
  go_wp2
  go_loopw [5, 6] (fun v i wr => ∃ (k : Nat) (ys : List UInt8), k ≤ l.length ∧ ys.length ≤ k ∧ i = .int .i64 k ∧ wr.ownsRow w.heap.size 5 1 v ys.length (bc ys) ∧ Below w.heap.size w wr ∧ Hid (onto ys k (Pk.getL (l.drop k)) = ANS)) (fun _ i _ => l.length - (intOf i).toNat)
  case atStart => exact ⟨0, [], Nat.zero_le _, Nat.le_refl _, rfl, World.ownsRow_nil _ _ _ _, Below.refl _ _, by show _ = _; rw [onto_nil]; exact HN.out⟩
  case round =>
    obtain ⟨k, ys, hk, hyk, rfl, hown, hb, H⟩ := hrel
    have hz := hb.size
    clear HN
    by_cases hlt : k + 1 < l.length
    · obtain ⟨b, off, rfl, hc0⟩ := (HR.out.below hb).at_ (k := k) (by omega)
      have hc1 := rd_cell (HR.out.below hb) hlt
      have h1 := H.out
      rw [get_step l k hlt] at h1
      generalize l.getD k 0 = x at hc0 h1
      generalize l.getD (k + 1) 0 = y at hc1 h1
      clear H
      by_cases h0 : x = 0
      · subst h0
        rw [if_neg (by simp)] at h1
        have hc0' : wr.cell? ⟨b, off + k, none⟩ = some (.int .u8 0) := hc0
        clear hc0
        by_cases hy0 : y = 0
        · subst hy0
          rw [if_pos rfl] at h1
          have hc1' : wr.cell? ⟨b, off + (k + 1), none⟩ = some (.int .u8 0) := hc1
          have H1 : Hid (some (ys, k + 2) = ANS) := by show _ = _; rw [← h1]; simp [onto]
          clear hc1 h1
          go_wp2
          obtain rfl := H1.out
          refine bodyPost_ret (v := .tuple #[_, .int .i64 ((k + 2 : Nat) : Int), .bool true]) (by simp [results, Tryd.results17, go_sem]) rfl (got_some (n := k + 2) hown hb)
        · have hyz := byte_ne hy0
          rw [if_neg hy0] at h1
          by_cases hyf : y = 255
          · subst hyf
            rw [if_pos rfl, onto_map] at h1
            have hc1' : wr.cell? ⟨b, off + (k + 1), none⟩ = some (.int .u8 255) := hc1
            have H1 := Lib.hid h1
            clear hc1 h1 hyz hy0
            have d4 : (ys).length + 1 ≤ maxLen := by unfold maxLen; omega
            have d5 : ((ys).length + 1) * 1 ≤ 140737488355328 := by omega
            have d6 : w.heap.size ≤ (wr.alloc (.cells #[Value.int .u8 0] 5)).heap.size := by simp; omega
            have L1 : Hid (∀ j u, [Value.int .u8 0][j]? = some u → (wr.alloc (.cells #[Value.int .u8 0] 5)).cell? ((⟨wr.heap.size, 0, none⟩ : Addr).add j) = some u) := cell_one_new _ _ _
            have L2 : Hid (∀ u ∈ [Value.int .u8 0], u.oneCell' = true) := bc_oneCell [0]
            go_wp2_with (at_builtin; refine wpList_append_own _ rfl (.tmp 41) (.tmp 42) 22 rfl w.heap.size 5 i0 (.int .u8 0) 1 1 Tryd.underlying22 hi hz0 hz1 hz2 rfl (by decide) _ _ _ rfl (hown.alloc _) ⟨wr.heap.size, 0, none⟩ 1 1 [.int .u8 0] rfl rfl L1.out L2.out d4 d5 d6 ?_; intro v' w1 hown1 hg1 _)
            have hb1 := below_grew hb hown hg1
            go_roundw
            case rel => exact ⟨k + 2, ys ++ [0], by omega, by simp; omega, by go_num, by rw [List.length_append, bc_append]; exact hown1, hb1, H1.out⟩
            case measure => simp [intOf]; omega
          · have hyf' : ((y.toNat : Int) == 255) = false := by
              have : y.toNat ≠ 255 := fun e => hyf (by
                apply UInt8.toNat_inj.1
                simpa using e)
              simp
              omega
            have hyf2 : ((y.toNat : Int) != 255) = true := by simpa using hyf'
            rw [if_neg hyf] at h1
            have H1 : Hid (none = ANS) := h1
            clear h1
            go_wp2
            obtain rfl := H1.out
            refine bodyPost_ret (v := .tuple #[.slice none 0 0, .int .i64 0, .bool false]) (by simp [results, Tryd.results17, go_sem]) rfl (got_none hb)
      · have hxz := byte_ne h0
        have hxz2 : ((x.toNat : Int) != 0) = true := by simpa using hxz
        rw [if_pos h0, onto_map] at h1
        have H1 := Lib.hid h1
        clear h1 hc1
        have d4 : (ys).length + 1 ≤ maxLen := by unfold maxLen; omega
        have d5 : ((ys).length + 1) * 1 ≤ 140737488355328 := by omega
        have d6 : w.heap.size ≤ (wr.alloc (.cells #[Value.int .u8 (x.toNat : Int)] 5)).heap.size := by simp; omega
        have L1 : Hid (∀ j u, [Value.int .u8 (x.toNat : Int)][j]? = some u → (wr.alloc (.cells #[Value.int .u8 (x.toNat : Int)] 5)).cell? ((⟨wr.heap.size, 0, none⟩ : Addr).add j) = some u) := cell_one_new _ _ _
        have L2 : Hid (∀ u ∈ [Value.int .u8 (x.toNat : Int)], u.oneCell' = true) := bc_oneCell [x]
        go_wp2_with (at_builtin; refine wpList_append_own _ rfl (.tmp 19) (.tmp 24) 22 rfl w.heap.size 5 i0 (.int .u8 0) 1 1 Tryd.underlying22 hi hz0 hz1 hz2 rfl (by decide) _ _ _ rfl (hown.alloc _) ⟨wr.heap.size, 0, none⟩ 1 1 [.int .u8 (x.toNat : Int)] rfl rfl L1.out L2.out d4 d5 d6 ?_; intro v' w1 hown1 hg1 _)
        have hb1 := below_grew hb hown hg1
        go_roundw
        case rel => exact ⟨k + 1, ys ++ [x], by omega, by simp; omega, by go_num, by rw [List.length_append, bc_append]; exact hown1, hb1, H1.out⟩
        case measure => simp [intOf]; omega
    · have h1 := H.out
      rw [get_end l k hlt] at h1
      have H1 : Hid (none = ANS) := h1
      clear h1 H
      go_wp2
      obtain rfl := H1.out
      refine bodyPost_ret (v := .tuple #[.slice none 0 0, .int .i64 0, .bool false]) (by simp [results, Tryd.results17, go_sem]) rfl (got_none hb)
end Go.Proofs.YtokphfpjgmmklaaDoor.Wk
