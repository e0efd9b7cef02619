/- The walk over KeyNumbers. -/
import Derived.Test.YtokphfpjgmmklaaDoorKeyLaws
import Derived.Test.YtokphfpjgmmklaaDoorKeyRefWhole
import Derived.Test.YtokphfpjgmmklaaDoorKeyBackP
import Derived.Deep.CutBlock
import Derived.Deep.RegionHeld3
import Derived.Deep.AppendLies
namespace Go.Proofs.YtokphfpjgmmklaaDoor.Wk
open Go Go.RowKit Go.Proofs.YtokphfpjgmmklaaDoor.Kb

def nums : List Int := [-9223372036854775808, -9223372036854775807, -257, -256, -1, 0, 1, 255, 256, 4611686018427387903, 9223372036854775807]
theorem toNat_ofNat (k : Nat) (h : k < 256) : ((UInt8.ofNat k).toNat : Int) = (k : Int) := by
  simp only [UInt8.toNat_ofNat']
  omega
/-- KeyRows at new bytes -/
theorem rows_new {w : World} (ht : Env w) (l : List UInt8) (hl : l.length ≤ 100) : ∀ (wx : World) (n c : Nat) (cs : Array Value), Below w.heap.size w wx → l.length = n → (bc l).toArray = cs →
    Calls Tryd.prog 4 #[.slice (some ⟨wx.heap.size, 0, none⟩) n c] (wx.alloc (.cells cs 5)) fun e w' => e = .returned (.bool true) ∧ Below w.heap.size w w' := by
  rintro wx n c cs hb rfl rfl
  have hb1 : Below w.heap.size w (wx.alloc (.cells (bc l).toArray 5)) := hb.alloc hb.size _
  exact (law_rows _ l c _ (ht.below hb1) (rd_new wx l) (by omega)).mono fun e w' ⟨he, h⟩ => ⟨he, hb1.trans (h.mono hb1.size)⟩
theorem below_any {w w1 w2 : World} (h : Below w.heap.size w w1) (h' : Below w1.heap.size w1 w2) : Below w.heap.size w w2 := h.trans (h'.mono h.size)
theorem nums_all : ∀ x ∈ nums, -9223372036854775808 ≤ x ∧ x ≤ 9223372036854775807 := by decide
theorem getI_back (n : Int) (A : Option Addr) (c : Nat) (w : World) (hr : Rd w A (Pk.putInt n)) (h0 : -9223372036854775808 ≤ n) (h1 : n ≤ 9223372036854775807) :
    Calls Tryd.prog 11 #[.slice A 8 c] w fun e w' => e = .returned (.tuple #[.int .i64 n, .int .i64 8, .bool true]) ∧ Below w.heap.size w w' := by
  have h := getInt_any A (Pk.putInt n) c w hr (by have : (Pk.putInt n).length = 8 := rfl; omega)
  have e := Pk.get_i n [] h0 h1
  rw [List.append_nil] at e
  rw [e, decide_eq_true (show 8 ≤ (Pk.putInt n).length from Nat.le_refl _)] at h
  exact h
theorem own_below' {B : Nat} {e : TypeId} {k : Nat} {v : Value} {n : Nat} {xs : List Value} {w w' : World} (h : w.ownsRow B e k v n xs) (hb : Below w.heap.size w w') : w'.ownsRow B e k v n xs :=
  h.kept (row := none) ⟨hb.os, hb.tape, hb.output, hb.size, fun j hj _ => hb.block j hj⟩ (by cases hv : v.ownBlock <;> simp)
theorem below_draw {w w1 : World} (h : Below w.heap.size w w1) : Below w.heap.size w w1.drew := h.trans ⟨rfl, rfl, rfl, Nat.le_refl _, fun _ _ => rfl⟩
theorem step_keep {b k : Nat} {v : Value} {w w1 w2 : World} (h : w1.cell? ⟨b, k, none⟩ = some v ∧ Below w.heap.size w w1) (h' : Below w1.heap.size w1 w2) : w2.cell? ⟨b, k, none⟩ = some v ∧ Below w.heap.size w w2 :=
  ⟨by rw [h'.cell (p := ⟨b, k, none⟩) (cell_lt h.1)]; exact h.1, below_any h.2 h'⟩
theorem step_alloc {b k : Nat} {v : Value} {w w1 : World} {o : Obj} (h : w1.cell? ⟨b, k, none⟩ = some v ∧ Below w.heap.size w w1) : (w1.alloc o).cell? ⟨b, k, none⟩ = some v ∧ Below w.heap.size w (w1.alloc o) :=
  step_keep h ((Below.refl _ _).alloc (Nat.le_refl _) o)
theorem ints_pre {w : World} (ht : Env w) (n : Int) (A : Option Addr) (c : Nat) (h0 : -9223372036854775808 ≤ n) (h1 : n ≤ 9223372036854775807) : ∀ wx, Below w.heap.size w wx → Rd wx A (Pk.putInt n) → Calls Tryd.prog 3 #[.int .i64 n, .slice A 7 c] wx fun e w' => e = .returned (.bool true) ∧ Below wx.heap.size wx w' := fun wx hb hr => by
  have hr7 : Rd wx A ((Pk.putInt n).take 7) := fun hne => by
    obtain ⟨b, off, hA, hc⟩ := hr (by intro e; cases e)
    refine ⟨b, off, hA, fun j x hx => hc j x ?_⟩
    rw [List.getElem?_take] at hx
    split at hx
    · exact hx
    · cases hx
  exact law_ints n A ((Pk.putInt n).take 7) c wx (ht.below hb) hr7 (by rw [List.length_take]; omega) h0 h1
theorem ints_more {w : World} (ht : Env w) (n : Int) (h0 : -9223372036854775808 ≤ n) (h1 : n ≤ 9223372036854775807) : ∀ wx A c N, N = 9 → Below w.heap.size w wx → Rd wx A (Pk.putInt n ++ [3]) → Calls Tryd.prog 3 #[.int .i64 n, .slice A N c] wx fun e w' => e = .returned (.bool true) ∧ Below wx.heap.size wx w' := fun wx A c N hN hb hr => by
  subst hN
  have e : (Pk.putInt n ++ [3]).length = 9 := rfl
  have h := law_ints n A (Pk.putInt n ++ [3]) c wx (ht.below hb) hr (by omega) h0 h1
  rw [e] at h
  exact h
theorem own_shape' {w : World} {base n c : Nat} {A : Option Addr} {xs : List Value} (h : w.ownsRow base 5 1 (.slice A n c) n xs) : n ≤ c := by
  obtain ⟨A', c', hv, _, h2, _⟩ := own_shape h
  cases hv
  exact h2
theorem step_draw {b k : Nat} {v : Value} {w w1 : World} (h : w1.cell? ⟨b, k, none⟩ = some v ∧ Below w.heap.size w w1) : w1.drew.cell? ⟨b, k, none⟩ = some v ∧ Below w.heap.size w w1.drew := ⟨h.1, below_draw h.2⟩
theorem step_grow {b k n : Nat} {v vv : Value} {w w1 w2 : World} {xs : List Value} (h : w1.cell? ⟨b, k, none⟩ = some v ∧ Below w.heap.size w w1) (hb : b < w.heap.size) (hown : w1.ownsRow w.heap.size 5 1 vv n xs) (hg : w1.grownBy w2 vv.ownBlock) : w2.cell? ⟨b, k, none⟩ = some v ∧ Below w.heap.size w w2 := by
  have h2 : Below w.heap.size w w2 := Below.grown h.2 hg h.2.size (fun _ hj => (hown.lt _ hj).1)
  refine ⟨?_, h2⟩
  rw [h2.cell (p := ⟨b, k, none⟩) hb, ← h.2.cell (p := ⟨b, k, none⟩) hb]
  exact h.1
def yesL : List ByteArray := [⟨#[48]⟩, ⟨#[55]⟩, ⟨#[45, 49]⟩, ⟨#[49, 48]⟩, ⟨#[57, 50, 50, 51, 51, 55, 50, 48, 51, 54, 56, 53, 52, 55, 55, 53, 56, 48, 55]⟩, ⟨#[45, 57, 50, 50, 51, 51, 55, 50, 48, 51, 54, 56, 53, 52, 55, 55, 53, 56, 48, 56]⟩]
def noL : List ByteArray := [⟨#[]⟩, ⟨#[45]⟩, ⟨#[45, 48]⟩, ⟨#[48, 48]⟩, ⟨#[48, 49]⟩, ⟨#[45, 48, 49]⟩, ⟨#[43, 49]⟩, ⟨#[49, 32]⟩, ⟨#[32, 49]⟩, ⟨#[49, 97]⟩, ⟨#[57, 50, 50, 51, 51, 55, 50, 48, 51, 54, 56, 53, 52, 55, 55, 53, 56, 48, 56]⟩, ⟨#[45, 57, 50, 50, 51, 51, 55, 50, 48, 51, 54, 56, 53, 52, 55, 55, 53, 56, 48, 57]⟩, ⟨#[49, 48, 48, 48, 48, 48, 48, 48, 48, 48, 48, 48, 48, 48, 48, 48, 48, 48, 48, 48]⟩, ⟨#[48, 120, 49]⟩, ⟨#[49, 46, 48]⟩, ⟨#[45, 45, 49]⟩, ⟨#[255]⟩]
theorem yes_all : ∀ x ∈ yesL, wholeB x.data.toList = true ∧ x.size ≤ 100 := by decide +kernel
theorem no_all : ∀ x ∈ noL, wholeB x.data.toList = false ∧ wholeN x.data.toList = 0 ∧ x.size ≤ 100 := by decide +kernel
theorem yes_call {w : World} (ht : Env w) (x : ByteArray) (h1 : wholeB x.data.toList = true) (h2 : x.size ≤ 100) : ∀ wx, Below w.heap.size w wx → Calls Tryd.prog 20 #[.string x] wx fun e w' => ∃ n, e = .returned (.tuple #[.int .i64 n, .bool true]) ∧ Below wx.heap.size wx w' := fun wx hb =>
  (whole_any x wx (by omega) (ht.below hb)).mono fun e w' ⟨he, h⟩ => ⟨wholeN x.data.toList, by rw [he, h1], h⟩
theorem no_call {w : World} (ht : Env w) (x : ByteArray) (h1 : wholeB x.data.toList = false) (h3 : wholeN x.data.toList = 0) (h2 : x.size ≤ 100) : ∀ wx, Below w.heap.size w wx → Calls Tryd.prog 20 #[.string x] wx fun e w' => e = .returned (.tuple #[.int .i64 0, .bool false]) ∧ Below wx.heap.size wx w' := fun wx hb =>
  (whole_any x wx (by omega) (ht.below hb)).mono fun e w' ⟨he, h⟩ => ⟨by rw [he, h1, h3], h⟩
theorem yes_law {w : World} (ht : Env w) (x : ByteArray) (h2 : x.size ≤ 100) : ∀ wx, Below w.heap.size w wx → Calls Tryd.prog 5 #[.string x] wx fun e w' => e = .returned (.bool true) ∧ Below wx.heap.size wx w' := fun wx hb =>
  law_wholes x wx (ht.below hb) (by omega)
set_option maxRecDepth 100000 in
set_option maxHeartbeats 4000000 in
theorem law_numbers (w : World) (ht : Env w) :
    Calls Tryd.prog 7 #[] w fun e w' => e = .returned (.bool true) ∧ Below w.heap.size w w' := by
  have HT := Kept.mk ht
  clear ht
  go_enter Tryd.func7, Tryd.ntmps7
  go_upto_region 2 with (fail)
  have hB0 : Below w.heap.size w (w.alloc (.cells (nums.map (Value.int .i64)).toArray 2)) := (Below.refl _ _).alloc (Nat.le_refl _) _
  have hC : ∀ j x, nums[j]? = some x → (w.alloc (.cells (nums.map (Value.int .i64)).toArray 2)).cell? ⟨w.heap.size, j, none⟩ = some (.int .i64 x) := fun j x hx => by
    rw [World.cell?_alloc_new]
    simp [hx]
  change Code.wp _ _ _ _ (w.alloc (.cells (nums.map (Value.int .i64)).toArray 2))
  generalize w.alloc (.cells (nums.map (Value.int .i64)).toArray 2) = W at hB0 hC ⊢
  have HC := Kept.mk hC
  clear hC
  go_upto_block 0 with (fail)
  go_cut [] (fun wx => Below w.heap.size w wx)
  case first =>
    go_wp2
    go_loopw [2] (fun i wx => ∃ k : Nat, k ≤ 11 ∧ i = .int .i64 k ∧ Below w.heap.size w wx ∧ Below W.heap.size W wx) (fun i _ => 11 - (intOf i).toNat)
    case atStart => exact ⟨0, by omega, rfl, hB0, Below.refl _ _⟩
    case round =>
      obtain ⟨k, hk, rfl, hb, hb'⟩ := hrel
      by_cases hlt : k < 11
      · obtain ⟨n, hx⟩ : ∃ x, nums[k]? = some x := ⟨nums[k]'hlt, List.getElem?_eq_getElem hlt⟩
        have hc : wr.cell? ⟨w.heap.size, k, none⟩ = some (.int .i64 n) := by
          have h1 := HC.out k n hx
          rw [hb'.cell (p := ⟨w.heap.size, k, none⟩) (cell_lt h1)]
          exact h1
        obtain ⟨n0, n1⟩ := nums_all n (List.mem_of_getElem? hx)
        have i0 : (0 : Int) ≤ (k : Int) := by omega
        have i1 : (k : Int) < 11 := by omega
        clear hx
        have N0 := Kept.mk n0
        have N1 := Kept.mk n1
        clear n0 n1
        go_wp2_with (fail)
        refine (putInt_any n _ N0.out N1.out).mono ?_; rintro e w1 ⟨v1, rfl, hown1, h1⟩
        obtain ⟨A1, c1, rfl, _⟩ := own_shape hown1
        have R1 := Kept.mk (rd_of_own hown1)
        have O1 := Kept.mk hown1
        have hc1 : w1.cell? ⟨w.heap.size, k, none⟩ = some (.int .i64 n) := by
          rw [h1.cell (p := ⟨w.heap.size, k, none⟩) (cell_lt hc)]
          exact hc
        have g1 := below_any hb h1
        have g1' := below_any hb' h1
        have E1 := Kept.mk h1
        have BK := Kept.mk (cell_lt hc)
        have C8 := Kept.mk (own_shape' hown1)
        clear hown1 h1 hc
        go_wp2_with (fail)
        refine (getI_back n A1 c1 w1 R1.out N0.out N1.out).mono ?_; rintro e w2 ⟨rfl, h2⟩
        have hc2 : w2.cell? ⟨w.heap.size, k, none⟩ = some (.int .i64 n) := by
          rw [h2.cell (p := ⟨w.heap.size, k, none⟩) (cell_lt hc1)]
          exact hc1
        have g2 := below_any g1 h2
        have O2 := Kept.mk (own_below' O1.out h2)
        have E2 := Kept.mk (below_any E1.out h2)
        clear h2 hc1 g1 g1'
        obtain ⟨i0', hi', hz0', hz1', hz2'⟩ := info_parts infoB
        have c8 : (7 : Int) ≤ (c1 : Int) := by have h1 := C8.out; have h2 : (Pk.putInt n).length = 8 := rfl; omega
        have L1 := Kept.mk (ints_pre HT.out n A1 c1 N0.out N1.out)
        have L2 := Kept.mk (ints_more HT.out n N0.out N1.out)
        have R2 := Kept.mk (rd_of_own O2.out)
        have nn : (n == n) = true := beq_self_eq_true n
        have hw2 := Kept.mk (And.intro hc2 E2.out)
        have HB1 := Kept.mk hb
        have HB2 := Kept.mk hb'
        clear hb hb' hc2
        go_wp2_with (fail)
        go_region_held3 (fun wx => wx.cell? ⟨w.heap.size, k, none⟩ = some (.int .i64 n) ∧ Below wr.heap.size wr wx) (first
            | assumption
            | exact step_draw hw2.out
            | exact step_keep (by assumption) (by assumption)
            | exact step_alloc (by assumption)
            | exact step_grow (by assumption) BK.out (own_below' O2.out (below_any (below_any (below_draw (Below.refl _ _)) h3) ((Below.refl _ _).alloc (Nat.le_refl _) _))) (by assumption)) (first
          | (go_at_call_of 3 (Value.slice A1 7 c1); refine (L1.out _ (below_any g2 (below_draw (Below.refl _ _))) (R2.out.below (below_draw (Below.refl _ _)))).mono ?_; rintro e w3 ⟨rfl, h3⟩)
          | (rw [if_pos (by rfl)]; refine wp_append_lies _ (.tmp 69) (.tmp 70) 22 (by rfl) wr.heap.size 5 i0' (.int .u8 0) 1 1 Tryd.underlying22 hi' hz0' hz1' hz2' rfl (by decide) (.slice A1 (Pk.putInt n).length c1) (Pk.putInt n).length (bc (Pk.putInt n)) (by rfl) (own_below' O2.out (below_any (below_any (below_draw (Below.refl _ _)) h3) ((Below.refl _ _).alloc (Nat.le_refl _) _))) ⟨w3.heap.size, 0, none⟩ 1 1 [.int .u8 3] (by rfl) (by rfl) (World.news_of_block (heap_alloc_new w3 _)) (by simp [Value.oneCell']) (by decide) (by have h8 : (Pk.putInt n).length = 8 := rfl; unfold maxLen; omega) (by have h8 : (Pk.putInt n).length = 8 := rfl; omega) (Nat.le_trans E2.out.size (Nat.le_trans h3.size (by simp))) _ rfl ?_; intro g4 cap4 w4 hown4 hgrow4 hat4 hlt4)
          | (go_at_call 3; refine (L2.out _ _ _ _ (by rfl) (below_any HB1.out (And.right (by assumption))) (rd_of_own (base := wr.heap.size) (l := Pk.putInt n ++ [3]) (by rw [bc_append]; exact hown4))).mono ?_; rintro e w5 ⟨rfl, h5⟩))
        all_goals
          go_wp2_with (fail)
          go_roundw
          case rel => exact ⟨k + 1, by omega, by go_num, below_any HB1.out (And.right (by with_reducible assumption)), below_any HB2.out (And.right (by with_reducible assumption))⟩
          case measure => simp [intOf]; omega
      · obtain rfl : k = 11 := by omega
        go_wp2
        go_meet
        case rel => exact hb
  case rest =>
    clear hB0
    go_upto_block 2 with (fail)
    go_cut [] (fun wx => Below w.heap.size w wx)
    case first =>
      go_wp2
      go_loopw [7] (fun i wx => ∃ k : Nat, k ≤ 256 ∧ i = .int .i64 k ∧ Below w.heap.size w wx) (fun i _ => 256 - (intOf i).toNat)
      case atStart => exact ⟨0, by omega, rfl, hcut⟩
      case round =>
        obtain ⟨k, hk, rfl, hb⟩ := hrel
        by_cases hlt : k < 256
        · obtain ⟨c, hc⟩ : ∃ c : UInt8, (c.toNat : Int) = (k : Int) := ⟨UInt8.ofNat k, toNat_ofNat k hlt⟩
          have K1 := Kept.mk (rows_new HT.out [c] (by simp))
          have K2 := Kept.mk (rows_new HT.out [0, c] (by simp))
          have K3 := Kept.mk (rows_new HT.out [0, c, 0, 0] (by simp))
          have K4 := Kept.mk (rows_new HT.out [c, 0] (by simp))
          have K5 := Kept.mk (rows_new HT.out [1, 0, 255, c, 0, 0, 0] (by simp))
          have hx : IntKind.u8.wrap (k : Int) = (k : Int) := by rw [IntKind.wrap_u8]; omega
          go_wp2_with (fail)
          refine (K1.out _ 1 1 _ hb rfl (by simp [bc, hc])).mono ?_; rintro e w1 ⟨rfl, h1⟩
          go_wp2_with (fail)
          refine (K2.out _ 2 2 _ h1 rfl (by simp [bc, hc])).mono ?_; rintro e w2 ⟨rfl, h2⟩
          go_wp2_with (fail)
          refine (K3.out _ 4 4 _ h2 rfl (by simp [bc, hc])).mono ?_; rintro e w3 ⟨rfl, h3⟩
          go_wp2_with (fail)
          refine (K4.out _ 2 2 _ h3 rfl (by simp [bc, hc])).mono ?_; rintro e w4 ⟨rfl, h4⟩
          go_wp2_with (fail)
          refine (K5.out _ 7 7 _ h4 rfl (by simp [bc, hc])).mono ?_; rintro e w5 ⟨rfl, h5⟩
          clear h1 h2 h3 h4 K1 K2 K3 K4 K5 hx hc
          go_wp2_with (fail)
          go_roundw
          case rel => exact ⟨k + 1, by omega, by go_num, h5⟩
          case measure => simp [intOf]; omega
        · obtain rfl : k = 256 := by omega
          go_wp2
          go_meet
          case rel => exact hb
    case rest =>
      have hcut2 := hcut
      clear hcut
      go_upto_region 17 with (fail)
      have hB1 : Below w.heap.size w ((wc.alloc (.cells (yesL.map Value.string).toArray 9)).alloc (.cells (noL.map Value.string).toArray 9)) := by
        have h1 := hcut2.alloc hcut2.size (.cells (yesL.map Value.string).toArray 9)
        exact h1.alloc h1.size _
      have hY : ∀ j x, yesL[j]? = some x → ((wc.alloc (.cells (yesL.map Value.string).toArray 9)).alloc (.cells (noL.map Value.string).toArray 9)).cell? ⟨wc.heap.size, j, none⟩ = some (.string x) := fun j x hx => by
        have h1 : (wc.alloc (.cells (yesL.map Value.string).toArray 9)).cell? ⟨wc.heap.size, j, none⟩ = some (.string x) := by
          rw [World.cell?_alloc_new]
          simp [hx]
        have hb := (Below.refl (wc.alloc (.cells (yesL.map Value.string).toArray 9)).heap.size (wc.alloc (.cells (yesL.map Value.string).toArray 9))).alloc (Nat.le_refl _) (.cells (noL.map Value.string).toArray 9)
        rw [hb.cell (p := ⟨wc.heap.size, j, none⟩) (cell_lt h1)]
        exact h1
      have hN : ∀ j x, noL[j]? = some x → ((wc.alloc (.cells (yesL.map Value.string).toArray 9)).alloc (.cells (noL.map Value.string).toArray 9)).cell? ⟨wc.heap.size + 1, j, none⟩ = some (.string x) := fun j x hx => by
        have e : wc.heap.size + 1 = (wc.alloc (.cells (yesL.map Value.string).toArray 9)).heap.size := by rw [World.size_alloc]
        rw [e, World.cell?_alloc_new]
        simp [hx]
      change Code.wp _ _ _ _ ((wc.alloc (.cells (yesL.map Value.string).toArray 9)).alloc (.cells (noL.map Value.string).toArray 9))
      generalize (wc.alloc (.cells (yesL.map Value.string).toArray 9)).alloc (.cells (noL.map Value.string).toArray 9) = V at hB1 hY hN ⊢
      have HY := Kept.mk hY
      have HN := Kept.mk hN
      generalize wc.heap.size = Bk at HY HN ⊢
      clear hY hN hcut2
      go_upto_block 4 with (fail)
      go_cut [] (fun wx => Below w.heap.size w wx ∧ Below V.heap.size V wx)
      case first =>
        go_wp2
        go_loopw [11] (fun i wx => ∃ k : Nat, k ≤ 6 ∧ i = .int .i64 k ∧ Below w.heap.size w wx ∧ Below V.heap.size V wx) (fun i _ => 6 - (intOf i).toNat)
        case atStart => exact ⟨0, by omega, rfl, hB1, Below.refl _ _⟩
        case round =>
          obtain ⟨k, hk, rfl, hb, hb'⟩ := hrel
          by_cases hlt : k < 6
          · obtain ⟨x, hx⟩ : ∃ x, yesL[k]? = some x := ⟨yesL[k]'hlt, List.getElem?_eq_getElem hlt⟩
            have hc : wr.cell? ⟨Bk, k, none⟩ = some (.string x) := by
              have h1 := HY.out k x hx
              rw [hb'.cell (p := ⟨Bk, k, none⟩) (cell_lt h1)]
              exact h1
            obtain ⟨x1, x2⟩ := yes_all x (List.mem_of_getElem? hx)
            have i0 : (0 : Int) ≤ (k : Int) := by omega
            have i1 : (k : Int) < 6 := by omega
            clear hx
            have C1 := Kept.mk (yes_call HT.out x x1 x2)
            have C2 := Kept.mk (yes_law HT.out x x2)
            clear x1 x2
            go_wp2_with (fail)
            refine (C1.out _ hb).mono ?_; rintro e w1 ⟨n1, rfl, h1⟩
            have hc1 : w1.cell? ⟨Bk, k, none⟩ = some (.string x) := by
              rw [h1.cell (p := ⟨Bk, k, none⟩) (cell_lt hc)]
              exact hc
            go_wp2_with (fail)
            refine (C2.out _ (below_any hb h1)).mono ?_; rintro e w2 ⟨rfl, h2⟩
            have g2 := below_any (below_any hb h1) h2
            have g2' := below_any (below_any hb' h1) h2
            clear h1 h2 hb hb' hc hc1
            go_wp2_with (fail)
            go_roundw
            case rel => exact ⟨k + 1, by omega, by go_num, g2, g2'⟩
            case measure => simp [intOf]; omega
          · obtain rfl : k = 6 := by omega
            go_wp2
            go_meet
            case rel => exact ⟨hb, hb'⟩
      case rest =>
        obtain ⟨hB2, hV2⟩ := hcut
        go_upto_block 6 with (fail)
        go_cut [] (fun wx => Below w.heap.size w wx)
        case first =>
          go_wp2
          go_loopw [14] (fun i wx => ∃ k : Nat, k ≤ 17 ∧ i = .int .i64 k ∧ Below w.heap.size w wx ∧ Below V.heap.size V wx) (fun i _ => 17 - (intOf i).toNat)
          case atStart => exact ⟨0, by omega, rfl, hB2, hV2⟩
          case round =>
            obtain ⟨k, hk, rfl, hb, hb'⟩ := hrel
            by_cases hlt : k < 17
            · obtain ⟨x, hx⟩ : ∃ x, noL[k]? = some x := ⟨noL[k]'hlt, List.getElem?_eq_getElem hlt⟩
              have hc : wr.cell? ⟨Bk + 1, k, none⟩ = some (.string x) := by
                have h1 := HN.out k x hx
                rw [hb'.cell (p := ⟨Bk + 1, k, none⟩) (cell_lt h1)]
                exact h1
              obtain ⟨x1, x2, x3⟩ := no_all x (List.mem_of_getElem? hx)
              have i0 : (0 : Int) ≤ (k : Int) := by omega
              have i1 : (k : Int) < 17 := by omega
              clear hx
              have C1 := Kept.mk (no_call HT.out x x1 x2 x3)
              clear x1 x2 x3
              go_wp2_with (fail)
              refine (C1.out _ hb).mono ?_; rintro e w1 ⟨rfl, h1⟩
              have g1 := below_any hb h1
              have g1' := below_any hb' h1
              clear h1 hb hb' hc
              go_wp2_with (fail)
              go_roundw
              case rel => exact ⟨k + 1, by omega, by go_num, g1, g1'⟩
              case measure => simp [intOf]; omega
            · obtain rfl : k = 17 := by omega
              go_wp2
              go_meet
              case rel => exact hb
        case rest =>
          go_wp2_with (fail)
          refine (awake_any _ (HT.out.below hcut)).mono ?_; rintro e w9 ⟨rfl, h9⟩
          have g9 := below_any hcut h9
          go_wp2_with (fail)
          go_ret
          exact ⟨rfl, g9⟩
end Go.Proofs.YtokphfpjgmmklaaDoor.Wk
