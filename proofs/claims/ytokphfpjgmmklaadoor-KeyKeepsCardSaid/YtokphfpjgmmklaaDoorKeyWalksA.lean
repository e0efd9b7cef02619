/- The walks over the program's and the document's rows: put, PutBytes. -/
import Derived.Test.YtokphfpjgmmklaaDoorKitBytes
import Derived.Test.YtokphfpjgmmklaaDoorKeyPlain
namespace Go.Proofs.YtokphfpjgmmklaaDoor.Wk
open Go Go.RowKit Go.Proofs.YtokphfpjgmmklaaDoor.Kb

theorem infoB : (Tryd.prog.info? 5).map (fun i => (i.zero, i.size, i.bytes)) = some (some (.int .u8 0), 1, 1) := by kernel_rfl
/-- a slice of the call's own that holds these bytes, and what has turned -/
def Grew (w : World) (B : Nat) (row : Option Nat) (l : List UInt8) (e : Ending) (w' : World) : Prop :=
  ∃ v', e = .returned v' ∧ w'.ownsRow B 5 1 v' l.length (bc l) ∧ w.grownBy w' row
/-- a slice of the call's own that holds these bytes, in new memory alone -/
def Made (w : World) (l : List UInt8) (e : Ending) (w' : World) : Prop :=
  ∃ v', e = .returned v' ∧ w'.ownsRow w.heap.size 5 1 v' l.length (bc l) ∧ Below w.heap.size w w'
set_option maxRecDepth 100000 in
theorem put_any (B : Nat) (v : Value) (l m : List UInt8) (b off c : Nat) (w : World) (hown : w.ownsRow B 5 1 v l.length (bc l)) (hm : ∀ j x, m[j]? = some x → w.cell? ⟨b, off + j, none⟩ = some (.int .u8 (x.toNat : Int)))
    (hB : B ≤ w.heap.size) (hsz : l.length + m.length ≤ 140737488355328) :
    Calls Tryd.prog 28 #[v, .slice (some ⟨b, off, none⟩) m.length c] w (Grew w B v.ownBlock (l ++ m)) := by
  obtain ⟨i0, hi, hz0, hz1, hz2⟩ := info_parts infoB
  have c1 : (bc m).length = m.length * 1 := by simp [bc_length]
  have c2 : ∀ j u, (bc m)[j]? = some u → w.cell? ((⟨b, off, none⟩ : Addr).add j) = some u := by
    intro j u hu
    rw [add_lit]
    obtain ⟨x, hx, rfl⟩ : ∃ x, m[j]? = some x ∧ Value.int .u8 (x.toNat : Int) = u := by
      simp only [bc, List.getElem?_map, Option.map_eq_some_iff] at hu
      exact hu
    exact hm j x hx
  have c4 : l.length + m.length ≤ maxLen := by unfold maxLen; omega
  have c5 : (l.length + m.length) * 1 ≤ 140737488355328 := by omega
  have C1 := Lib.hid c1
  have C2 := Lib.hid c2
  clear hm c1 c2
  go_enter Tryd.func28, Tryd.ntmps28
  go_wp2_with (at_builtin; refine wpList_append_own _ rfl _ _ 22 rfl B 5 i0 (.int .u8 0) 1 1 Tryd.underlying22 hi hz0 hz1 hz2 rfl (by decide) _ _ _ rfl hown ⟨b, off, none⟩ m.length c (bc m) rfl C1.out C2.out (bc_oneCell m) c4 c5 hB ?_; intro v' w1 hown' hgrow _)
  go_ret
  refine ⟨_, rfl, ?_, hgrow⟩
  rw [List.length_append, bc_append]
  exact hown'

theorem take_step (l : List UInt8) (k : Nat) (h : k < l.length) : Pk.putG (l.take (k + 1)) = Pk.putG (l.take k) ++ Pk.putC (l.getD k 0) := by
  have e : l.take (k + 1) = l.take k ++ [l.getD k 0] := by
    rw [List.take_succ_eq_append_getElem h]
    simp [List.getD, List.getElem?_eq_getElem h]
  rw [e, Pk.putG_append]
  simp [Pk.putG]
theorem take_all (l : List UInt8) (k : Nat) (h : ¬ k < l.length) : l.take k = l := List.take_of_length_le (by omega)
theorem take_len (l : List UInt8) (k : Nat) (h : k ≤ l.length) : (Pk.putG (l.take k)).length ≤ 2 * l.length := by
  have := (Pk.putG_length (l.take k)).2
  rw [List.length_take] at this
  omega
theorem two_cells (w : World) (x y : UInt8) (t : TypeId) : ∀ j z, [x, y][j]? = some z → (w.alloc (.cells #[.int .u8 (x.toNat : Int), .int .u8 (y.toNat : Int)] t)).cell? ⟨w.heap.size, 0 + j, none⟩ = some (.int .u8 (z.toNat : Int)) := by
  intro j z hz
  match j, hz with
  | 0, hz => simp at hz; subst hz; simp
  | 1, hz => simp at hz; subst hz; simp
  | j + 2, hz => simp at hz
theorem one_cell (w : World) (x : UInt8) (t : TypeId) : ∀ j z, [x][j]? = some z → (w.alloc (.cells #[.int .u8 (x.toNat : Int)] t)).cell? ⟨w.heap.size, 0 + j, none⟩ = some (.int .u8 (z.toNat : Int)) := by
  intro j z hz
  match j, hz with
  | 0, hz => simp at hz; subst hz; simp
  | j + 1, hz => simp at hz
theorem below_grew {w wr w1 : World} {v : Value} {n : Nat} {xs : List Value} {o : Obj} (hb : Below w.heap.size w wr) (hown : wr.ownsRow w.heap.size 5 1 v n xs) (hg : (wr.alloc o).grownBy w1 v.ownBlock) : Below w.heap.size w w1 := by
  have hz := hb.size
  exact Below.grown (hb.alloc hz o) hg (by simp; omega) (fun j hj => (hown.lt _ hj).1)
set_option maxRecDepth 100000 in
set_option maxHeartbeats 1000000 in
theorem putBytes_any (A : Option Addr) (l : List UInt8) (c : Nat) (w : World) (hr : Rd w A l) (hl : l.length ≤ 1000000) :
    Calls Tryd.prog 18 #[.slice A l.length c] w (Made w (Pk.putL l)) := by
  have HR := Lib.hid hr
  clear hr
  go_enter Tryd.func18, Tryd.ntmps18
  go_wp2
  go_loopw [3, 8] (fun v i wr => ∃ k : Nat, k ≤ l.length ∧ i = .int .i64 k ∧ wr.ownsRow w.heap.size 5 1 v (Pk.putG (l.take k)).length (bc (Pk.putG (l.take k))) ∧ Below w.heap.size w wr) (fun _ i _ => l.length - (intOf i).toNat)
  case atStart => exact ⟨0, Nat.zero_le _, rfl, World.ownsRow_nil _ _ _ _, Below.refl _ _⟩
  case round =>
    obtain ⟨k, hk, rfl, hown, hb⟩ := hrel
    have hz := hb.size
    by_cases hlt : k < l.length
    · obtain ⟨b, off, rfl, hcell⟩ := (HR.out.below hb).at_ hlt
      have hn := take_len l k hk
      have HS := Lib.hid (take_step l k hlt)
      generalize hx : l.getD k 0 = x at hcell HS
      clear hx
      by_cases h0 : x = 0
      · subst h0
        have hcell' : wr.cell? ⟨b, off + k, none⟩ = some (.int .u8 0) := hcell
        clear hcell
        go_wp2_with (go_at_call 28; refine (put_any w.heap.size _ _ [0, 255] wr.heap.size 0 2 _ (hown.alloc _) (two_cells wr 0 255 _) (by simp; omega) (by simp; omega)).mono ?_; rintro e w1 ⟨v', rfl, hown', hg⟩)
        have hb1 := below_grew hb hown hg
        go_roundw
        case rel => exact ⟨k + 1, by omega, by go_num, by rw [HS.out]; exact hown', hb1⟩
        case measure => simp [intOf]; omega
      · have hx0 : ((x.toNat : Int) == 0) = false := by
          have : x.toNat ≠ 0 := fun h => h0 (by
            apply UInt8.toNat_inj.1
            simpa using h)
          simp
          omega
        go_wp2_with (go_at_call 28; refine (put_any w.heap.size _ _ [x] wr.heap.size 0 1 _ (hown.alloc _) (one_cell wr x _) (by simp; omega) (by simp; omega)).mono ?_; rintro e w1 ⟨v', rfl, hown', hg⟩)
        have hb1 := below_grew hb hown hg
        have hp : Pk.putC x = [x] := if_neg h0
        go_roundw
        case rel => exact ⟨k + 1, by omega, by go_num, by rw [HS.out, hp]; exact hown', hb1⟩
        case measure => simp [intOf]; omega
    · have hn := (Pk.putG_length l).2
      have e : Pk.putG (l.take k) = Pk.putG l := by rw [take_all l k hlt]
      rw [e] at hown
      clear e
      go_wp2_with (go_at_call 28; refine (put_any w.heap.size _ _ [0, 0] wr.heap.size 0 2 _ (hown.alloc _) (two_cells wr 0 0 _) (by simp; omega) (by simp; omega)).mono ?_; rintro e w1 ⟨v', rfl, hown', hg⟩)
      have hb1 := below_grew hb hown hg
      go_ret
      exact ⟨v', rfl, hown', hb1⟩
end Go.Proofs.YtokphfpjgmmklaaDoor.Wk
