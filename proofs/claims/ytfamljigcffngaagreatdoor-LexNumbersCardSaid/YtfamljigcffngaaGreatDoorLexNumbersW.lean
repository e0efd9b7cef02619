/- The walks over LexScans, fault and LexNumbers (chapter 22). -/
import Derived.Test.YtfamljigcffngaaGreatDoorLexScanE
import Derived.Test.YtfamljigcffngaaGreatDoorLexSame
import Derived.Test.YtfamljigcffngaaGreatDoorShelfRep
import Derived.Deep.RegionHeld3
import Derived.Deep.RegionWith
namespace Go.Proofs.YtfamljigcffngaaGreatDoor.Wlx
open Go Go.RowKit Go.Proofs.YtfamljigcffngaaGreatDoor.Wch

theorem scan_lenN : ∀ (f a : Nat) (l : List UInt8) (ts : List (Plx.Tok × Nat)), Plx.scanG f a l = .ok ts → ts.length ≤ l.length + 1
  | 0, _, _, _, h => by cases h
  | f + 1, a, l, ts, h => by
    have hle := Plx.trimB_le l
    unfold Plx.scanG at h
    split at h
    · cases h; simp
    · split at h
      · split at h
        · cases h
        · rename_i n hc
          have hb := Plx.com_le _ _ _ hc
          have := scan_lenN f _ _ ts h
          rw [List.length_drop] at this
          omega
      · split at h
        · cases h
        · rename_i x hx
          have hb := Plx.tokL_le _ _ hx
          split at h
          · cases h
          · rename_i ts' he
            cases h
            have := scan_lenN f _ _ _ he
            rw [List.length_drop] at this
            simp only [List.length_cons]
            omega
/-- what Scan tells: tokens, a fault, its place -/
def toksR (r : Except (Nat × Nat) (List (Plx.Tok × Nat))) : List (Plx.Tok × Nat) := match r with
  | .ok l => l
  | .error _ => []
def fE (r : Except (Nat × Nat) (List (Plx.Tok × Nat))) : Int := match r with
  | .ok _ => 0
  | .error x => x.1
def fA (r : Except (Nat × Nat) (List (Plx.Tok × Nat))) : Int := match r with
  | .ok _ => 0
  | .error x => x.2
theorem toksR_len (l : List UInt8) : (toksR (Plx.scanL l)).length ≤ 65537 := by
  unfold Plx.scanL
  split
  · simp [toksR]
  · split
    · simp [toksR]
    · cases h : Plx.scanG (l.length + 1) 0 l with
      | error x => simp [toksR]
      | ok ts =>
        have := scan_lenN _ _ _ _ h
        simp only [toksR]
        omega
theorem Scanned.form {w w' : World} {r : Except (Nat × Nat) (List (Plx.Tok × Nat))} {e : Ending} (h : Scanned w r e w') :
    ∃ A c, e = .returned (.tuple #[.slice A (toksR r).length c, .agg #[.int .i64 (fE r), .int .i64 (fA r)]]) ∧ RdT w' A (toksR r) ∧ Below w.heap.size w w' := by
  obtain ⟨hb, h⟩ := h
  cases r with
  | error x => exact ⟨none, 0, h, fun hne => absurd rfl hne, hb⟩
  | ok l =>
    obtain ⟨v, rfl, hown⟩ := h
    rcases Nat.eq_zero_or_pos l.length with h0 | h0
    · have hl : l = [] := List.length_eq_zero_iff.1 h0
      subst hl
      rcases hown.2 with ⟨rfl, _⟩ | ⟨g, cap, cur, rfl, _⟩
      · exact ⟨none, 0, rfl, fun hne => absurd rfl hne, hb⟩
      · exact ⟨_, cap, rfl, fun hne => absurd rfl hne, hb⟩
    · obtain ⟨g, c, rfl, _, _⟩ := hown.form h0
      exact ⟨_, c, rfl, rdt_of_own hown, hb⟩
set_option maxRecDepth 100000 in
set_option maxHeartbeats 2000000 in
theorem lexScans_any (s : ByteArray) (w : World) (ht : Env w) :
    Calls Tryz.prog 9 #[.string s] w fun e w' => e = .returned (.bool true) ∧ Below w.heap.size w w' := by
  have HT := Kept.mk ht
  clear ht
  by_cases hs : 20000 < s.size
  · have hs' : (20000 : Int) < (s.size : Int) := by omega
    go_enter Tryz.func9, Tryz.ntmps9
    go_wp2_with (fail)
    refine (awake_any _ HT.out).mono ?_; rintro e w1 ⟨rfl, hb1⟩
    go_wp2_with (fail)
    go_ret
    exact ⟨rfl, hb1⟩
  have hs' : ¬ (20000 : Int) < (s.size : Int) := by omega
  have cA := fun wx hx => (scan_any s wx (by omega) hx).mono fun _ _ h => h.form
  have cB := fun wx => (refScan_any s wx (by omega)).mono fun _ _ h => h.form
  have hln := toksR_len s.data.toList
  have cS := fun A B c d wx ha hb => same_any A B (toksR (Plx.scanL s.data.toList)) c d wx ha hb (by omega)
  generalize toksR (Plx.scanL s.data.toList) = l at cA cB cS hln
  generalize fE (Plx.scanL s.data.toList) = x at cA cB
  generalize fA (Plx.scanL s.data.toList) = y at cA cB
  have CA := Kept.mk cA
  have CB := Kept.mk cB
  have CS := Kept.mk cS
  have xx : (x == x) = true := beq_self_eq_true x
  have yy : (y == y) = true := beq_self_eq_true y
  clear cA cB cS
  go_enter Tryz.func9, Tryz.ntmps9
  go_wp2_with (fail)
  refine (CA.out _ HT.out).mono ?_; rintro e w1 ⟨A1, c1, rfl, hr1, hb1⟩
  have R1 := Kept.mk hr1
  have B1 := Kept.mk hb1
  clear hr1 hb1
  go_wp2_with (fail)
  have A1b : Kept (Below w1.heap.size w1 (w1.alloc (.cells #[.int .i64 x, .int .i64 y] 26))) := ⟨(Below.refl _ _).alloc (Nat.le_refl _) _⟩
  refine (CB.out _).mono ?_; rintro e w2 ⟨A2, c2, rfl, hr2, hb2⟩
  have f0 : ∀ o, (w2.alloc o).cell? ⟨w1.heap.size, 0, none⟩ = some (.int .i64 x) := fun o => cell_keep ((Below.refl _ _).alloc (Nat.le_refl _) o) (cell_keep hb2 (by rw [World.cell?_alloc_new]; rfl))
  have f1 : ∀ o, (w2.alloc o).cell? ⟨w1.heap.size, 1, none⟩ = some (.int .i64 y) := fun o => cell_keep ((Below.refl _ _).alloc (Nat.le_refl _) o) (cell_keep hb2 (by rw [World.cell?_alloc_new]; rfl))
  have A2b : Kept (Below w2.heap.size w2 (w2.alloc (.cells #[.int .i64 x, .int .i64 y] 26))) := ⟨(Below.refl _ _).alloc (Nat.le_refl _) _⟩
  have R1' := Kept.mk (((R1.out.below A1b.out).below hb2).below A2b.out)
  have R2' := Kept.mk (hr2.below A2b.out)
  have B2 := Kept.mk (below_any (below_any (below_any B1.out A1b.out) hb2) A2b.out)
  clear hr2 hb2
  go_wp2_with (fail)
  refine (CS.out _ _ _ _ _ R1'.out R2'.out).mono ?_; rintro e w3 ⟨rfl, hb3⟩
  have B3 := Kept.mk (below_any B2.out hb3)
  clear hb3
  go_wp2_with (fail)
  refine (awake_any _ (HT.out.below B3.out)).mono ?_; rintro e w4 ⟨rfl, hb4⟩
  have B4 := Kept.mk (below_any B3.out hb4)
  clear hb4
  go_wp2_with (fail)
  go_ret
  exact ⟨rfl, B4.out⟩
theorem fault_any (s : ByteArray) (er p : Nat) (w : World) (hs : s.size ≤ 281474976710656) (ht : Env w) (h : Plx.scanL s.data.toList = .error (er, p)) :
    Calls Tryz.prog 13 #[.string s, .int .i64 er, .int .i64 p] w fun e w' => e = .returned (.bool true) ∧ Below w.heap.size w w' := by
  have C := Kept.mk (scan_bad s er p w hs ht h)
  have xx : ((er : Int) == er) = true := beq_self_eq_true _
  have yy : ((p : Int) == p) = true := beq_self_eq_true _
  clear h ht
  go_enter Tryz.func13, Tryz.ntmps13
  go_wp2_with (fail)
  refine C.out.mono ?_; rintro e w1 ⟨rfl, hb1⟩
  go_wp2
  go_ret
  exact ⟨rfl, hb1.alloc hb1.size _⟩

def signsN : List (List UInt8) := [[40], [41], [91], [93], [44], [47], [47, 47], [124], [43], [45], [42], [61], [33, 61], [60], [60, 61], [62], [62, 61], [46], [46, 46], [64], [58, 58], [58, 61], [123], [125]]
def signsV : Array Value := #[.string ⟨#[40]⟩, .string ⟨#[41]⟩, .string ⟨#[91]⟩, .string ⟨#[93]⟩, .string ⟨#[44]⟩, .string ⟨#[47]⟩, .string ⟨#[47, 47]⟩, .string ⟨#[124]⟩, .string ⟨#[43]⟩, .string ⟨#[45]⟩, .string ⟨#[42]⟩, .string ⟨#[61]⟩, .string ⟨#[33, 61]⟩, .string ⟨#[60]⟩, .string ⟨#[60, 61]⟩, .string ⟨#[62]⟩, .string ⟨#[62, 61]⟩, .string ⟨#[46]⟩, .string ⟨#[46, 46]⟩, .string ⟨#[64]⟩, .string ⟨#[58, 58]⟩, .string ⟨#[58, 61]⟩, .string ⟨#[123]⟩, .string ⟨#[125]⟩]
theorem signsV_at (j : Nat) (x : List UInt8) (h : signsN[j]? = some x) : signsV[j]? = some (.string ⟨x.toArray⟩) := by
  have e : signsV = (signsN.map fun x => Value.string ⟨x.toArray⟩).toArray := rfl
  rw [e]
  simp [h]
theorem signsN_len : (signsN.all fun x => decide (1 ≤ x.length ∧ x.length ≤ 2)) = true := by decide
theorem signsN_scan : signsN.map (fun x => Plx.scanL (32 :: (x ++ [10]))) = signsN.map fun x => .ok [((5, x, 0), 1), ((0, [], 0), x.length + 2)] := by kernel_rfl
theorem signs_scan (x : List UInt8) (h : x ∈ signsN) : Plx.scanL (32 :: (x ++ [10])) = .ok [((5, x, 0), 1), ((0, [], 0), x.length + 2)] := by
  obtain ⟨i, hi⟩ := List.mem_iff_getElem?.1 h
  have e := congrArg (fun l => l[i]?) signsN_scan
  simpa [List.getElem?_map, hi] using e
def nameB : ByteArray := ⟨#[110, 110, 110, 110, 110, 110, 110, 110, 110, 110, 110, 110, 110, 110, 110, 110, 110, 110, 110, 110, 110, 110, 110, 110, 110, 110, 110, 110, 110, 110, 110, 110, 110, 110, 110, 110, 110, 110, 110, 110, 110, 110, 110, 110, 110, 110, 110, 110, 110, 110, 110, 110, 110, 110, 110, 110, 110, 110, 110, 110, 110, 110, 110, 110, 110, 110, 110, 110, 110, 110, 110, 110, 110, 110, 110, 110, 110, 110, 110, 110, 110, 110, 110, 110, 110, 110, 110, 110, 110, 110, 110, 110, 110, 110, 110, 110, 110, 110, 110, 110]⟩
theorem nameB_size : nameB.size = 100 := by decide +kernel
theorem rep_name (w : World) : Calls Tryz.prog 10 #[.string ⟨#[110]⟩, .int .i64 100] w fun e w' => ∃ y : ByteArray, e = .returned (.string y) ∧ y = nameB ∧ Below w.heap.size w w' := by
  have h := Any.strings_Repeat Tryz.lays105 Tryz.Builder_Extra_105 ⟨#[110]⟩ 100 w (by decide) (by decide)
  have e : (⟨(Lib.repeatL (⟨#[110]⟩ : ByteArray).data.toList 100).toArray⟩ : ByteArray) = nameB := by decide +kernel
  rw [e] at h
  exact h.mono fun _ _ ⟨he, hb⟩ => ⟨_, he, rfl, hb⟩
theorem rep_blank (w : World) : Calls Tryz.prog 10 #[.string ⟨#[32]⟩, .int .i64 65537] w fun e w' => ∃ y : ByteArray, e = .returned (.string y) ∧ y.size = 65537 ∧ Below w.heap.size w w' := by
  have h := Any.strings_Repeat Tryz.lays105 Tryz.Builder_Extra_105 ⟨#[32]⟩ 65537 w (by decide) (by decide)
  refine h.mono fun e w' ⟨he, hb⟩ => ⟨_, he, ?_, hb⟩
  rw [← size_len]
  simp [Lib.repeatL_length]
def longS : ByteArray := ⟨#[97, 45, 98, 46, 99, 32, 195, 169, 95, 49, 32, 36, 120, 32, 48, 32, 48, 48, 55, 32, 57, 50, 50, 51, 51, 55, 50, 48, 51, 54, 56, 53, 52, 55, 55, 53, 56, 48, 55, 32, 34, 34, 32, 39, 97, 34, 34, 98, 39, 32, 34, 105, 116, 39, 115, 32, 34, 34, 113, 34, 32, 40, 58, 58, 41, 32, 40, 58, 32, 40, 58, 32, 39, 32, 58, 41, 32, 34, 32, 58, 41, 46, 46, 46, 45, 49]⟩
def longT : List (Plx.Tok × Nat) := [((1, [97, 45, 98, 46, 99], 0), 0), ((1, [195, 169, 95, 49], 0), 6), ((4, [120], 0), 11), ((2, [], 0), 14), ((2, [], 7), 16), ((2, [], 9223372036854775807), 20), ((3, [], 0), 40), ((3, [97, 34, 34, 98], 0), 43), ((3, [105, 116, 39, 115, 32, 34, 113], 0), 50), ((5, [46, 46], 0), 81), ((5, [46], 0), 83), ((5, [45], 0), 84), ((2, [], 1), 85), ((0, [], 0), 86)]
def longU : ByteArray := ⟨#[97, 45, 98, 46, 99, 32, 195, 169, 95, 49, 32, 36, 120, 32, 48, 32, 55, 32, 57, 50, 50, 51, 51, 55, 50, 48, 51, 54, 56, 53, 52, 55, 55, 53, 56, 48, 55, 32, 34, 34, 32, 34, 97, 34, 34, 34, 34, 98, 34, 32, 34, 105, 116, 39, 115, 32, 34, 34, 113, 34, 32, 46, 46, 32, 46, 32, 45, 32, 49, 32, 32]⟩
theorem long_1 : Plx.scanL longS.data.toList = .ok longT := by kernel_rfl
theorem long_2 : (⟨(spellsL longT).toArray⟩ : ByteArray) = longU := by kernel_rfl
theorem long_3 : Fit longT := by unfold Fit; decide +kernel
def badT : List (Plx.Tok × Nat) := [((1, [], 0), 0), ((1, [49], 0), 0), ((1, [97], 1), 0), ((2, [], -1), 0), ((2, [49], 0), 0), ((3, [255], 0), 0), ((4, [], 0), 0), ((5, [33], 0), 0), ((5, [], 0), 0), ((6, [], 0), 0), ((0, [120], 0), 0), ((0, [], 1), 0), ((4, [120], 1), 0)]
theorem bad_1 : (badT.all fun x => (Plx.spellL x.1).isNone) = true := by decide +kernel
theorem bad_2 : Fit badT := by unfold Fit; decide +kernel
theorem rdt_lit (w : World) (L : List (Plx.Tok × Nat)) (t : TypeId) : RdT (w.alloc (.cells (toksC L).toArray t)) (some ⟨w.heap.size, 0, none⟩) L := by
  intro _
  refine ⟨w.heap.size, 0, rfl, fun j x hx => ?_⟩
  have hc := fun i u hi (hu : (tokC x)[i]? = some u) => (show (w.alloc (.cells (toksC L).toArray t)).cell? ⟨w.heap.size, j * 4 + i, none⟩ = some u by
    rw [World.cell?_alloc_new, List.getElem?_toArray, toksC_get L j x i hx hi]
    exact hu)
  simp only [Nat.zero_add]
  exact ⟨hc 0 _ (by omega) rfl, hc 1 _ (by omega) rfl, hc 2 _ (by omega) rfl, hc 3 _ (by omega) rfl⟩
theorem fault_0 : Plx.scanL (⟨#[49, 97]⟩ : ByteArray).data.toList = .error (220, 0) := by kernel_rfl
theorem fault_1 : Plx.scanL (⟨#[49, 50, 32, 57, 50, 50, 51, 51, 55, 50, 48, 51, 54, 56, 53, 52, 55, 55, 53, 56, 48, 56]⟩ : ByteArray).data.toList = .error (251, 3) := by kernel_rfl
theorem fault_2 : Plx.scanL (⟨#[57, 57, 57, 57, 57, 57, 57, 57, 57, 57, 57, 57, 57, 57, 57, 57, 57, 57, 57, 57, 57, 57, 57, 57, 57, 57, 97]⟩ : ByteArray).data.toList = .error (220, 0) := by kernel_rfl
theorem fault_3 : Plx.scanL (⟨#[97, 32, 39, 32, 98]⟩ : ByteArray).data.toList = .error (220, 2) := by kernel_rfl
theorem fault_4 : Plx.scanL (⟨#[39, 97, 39, 39]⟩ : ByteArray).data.toList = .error (220, 0) := by kernel_rfl
theorem fault_5 : Plx.scanL (⟨#[36, 32, 97]⟩ : ByteArray).data.toList = .error (220, 0) := by kernel_rfl
theorem fault_6 : Plx.scanL (⟨#[36, 49]⟩ : ByteArray).data.toList = .error (220, 0) := by kernel_rfl
theorem fault_7 : Plx.scanL (⟨#[97, 32, 33, 32, 98]⟩ : ByteArray).data.toList = .error (220, 2) := by kernel_rfl
theorem fault_8 : Plx.scanL (⟨#[97, 32, 58, 32, 98]⟩ : ByteArray).data.toList = .error (220, 2) := by kernel_rfl
theorem fault_9 : Plx.scanL (⟨#[40, 58, 32, 97]⟩ : ByteArray).data.toList = .error (220, 0) := by kernel_rfl
theorem fault_10 : Plx.scanL (⟨#[40, 58, 32, 40, 58, 32, 58, 41]⟩ : ByteArray).data.toList = .error (220, 0) := by kernel_rfl
theorem fault_11 : Plx.scanL (⟨#[40, 58, 41]⟩ : ByteArray).data.toList = .error (220, 0) := by kernel_rfl
theorem fault_12 : Plx.scanL (⟨#[97, 255]⟩ : ByteArray).data.toList = .error (120, 1) := by kernel_rfl
theorem fault_13 : Plx.scanL (⟨#[33, 32, 0]⟩ : ByteArray).data.toList = .error (120, 2) := by kernel_rfl
theorem fault_14 : Plx.scanL (nameB ++ ⟨#[110]⟩ : ByteArray).data.toList = .error (220, 0) := by kernel_rfl
theorem fault_15 : Plx.scanL (⟨#[36]⟩ ++ nameB ++ ⟨#[110]⟩ : ByteArray).data.toList = .error (220, 0) := by kernel_rfl
theorem fault_17 : Plx.scanL (⟨#[35]⟩ : ByteArray).data.toList = .error (220, 0) := by kernel_rfl
theorem fault_18 : Plx.scanL (⟨#[194, 160, 97]⟩ : ByteArray).data.toList = .error (220, 0) := by kernel_rfl
theorem name_14 (nm : ByteArray) (h : nm = nameB) : Plx.scanL (nm ++ ⟨#[110]⟩ : ByteArray).data.toList = .error (220, 0) := by
  rw [h]
  exact fault_14
theorem name_15 (nm : ByteArray) (h : nm = nameB) : Plx.scanL (⟨#[36]⟩ ++ nm ++ ⟨#[110]⟩ : ByteArray).data.toList = .error (220, 0) := by
  rw [h]
  exact fault_15
theorem fault_n1 (nm : ByteArray) (hz : nm.size ≤ 1000) (h : Plx.scanL (nm ++ ⟨#[110]⟩ : ByteArray).data.toList = .error (220, 0)) (w : World) (ht : Env w) : Calls Tryz.prog 13 #[.string (nm ++ ⟨#[110]⟩), .int .i64 220, .int .i64 0] w fun e w' => e = .returned (.bool true) ∧ Below w.heap.size w w' := by
  have hs : (nm ++ ⟨#[110]⟩ : ByteArray).size ≤ 281474976710656 := by rw [ByteArray.size_append]; show _ + 1 ≤ _; omega
  generalize (nm ++ ⟨#[110]⟩ : ByteArray) = s at hs h ⊢
  exact fault_any s 220 0 w hs ht h
theorem fault_n2 (nm : ByteArray) (hz : nm.size ≤ 1000) (h : Plx.scanL (⟨#[36]⟩ ++ nm ++ ⟨#[110]⟩ : ByteArray).data.toList = .error (220, 0)) (w : World) (ht : Env w) : Calls Tryz.prog 13 #[.string (⟨#[36]⟩ ++ nm ++ ⟨#[110]⟩), .int .i64 220, .int .i64 0] w fun e w' => e = .returned (.bool true) ∧ Below w.heap.size w w' := by
  have hs : (⟨#[36]⟩ ++ nm ++ ⟨#[110]⟩ : ByteArray).size ≤ 281474976710656 := by rw [ByteArray.size_append, ByteArray.size_append]; show 1 + _ + 1 ≤ _; omega
  generalize (⟨#[36]⟩ ++ nm ++ ⟨#[110]⟩ : ByteArray) = s at hs h ⊢
  exact fault_any s 220 0 w hs ht h
theorem draw_below {w wx : World} (h : Below w.heap.size w wx) : Below w.heap.size w wx.drew := h.trans ⟨rfl, rfl, rfl, Nat.le_refl _, fun _ _ => rfl⟩
theorem three_draw {w wx : World} {a b c d : Nat} {u v : Value} (h : wx.cell? ⟨a, b, none⟩ = some u ∧ wx.cell? ⟨c, d, none⟩ = some v ∧ Below w.heap.size w wx) : wx.drew.cell? ⟨a, b, none⟩ = some u ∧ wx.drew.cell? ⟨c, d, none⟩ = some v ∧ Below w.heap.size w wx.drew := ⟨h.1, h.2.1, draw_below h.2.2⟩
theorem three_below {w wx w1 : World} {a b c d : Nat} {u v : Value} (h : wx.cell? ⟨a, b, none⟩ = some u ∧ wx.cell? ⟨c, d, none⟩ = some v ∧ Below w.heap.size w wx) (hb : Below wx.heap.size wx w1) : w1.cell? ⟨a, b, none⟩ = some u ∧ w1.cell? ⟨c, d, none⟩ = some v ∧ Below w.heap.size w w1 := ⟨cell_keep hb h.1, cell_keep hb h.2.1, below_any h.2.2 hb⟩
set_option maxRecDepth 200000 in
set_option maxHeartbeats 8000000 in
theorem law_numbers (w : World) (ht : Env w) : Calls Tryz.prog 4 #[] w fun e w' => e = .returned (.bool true) ∧ Below w.heap.size w w' := by
  have HT := Kept.mk ht
  clear ht
  go_enter Tryz.func4, Tryz.ntmps4
  go_wp2_with (fail)
  obtain ⟨W, hW⟩ : ∃ W, W = w.alloc (.cells signsV 9) := ⟨_, rfl⟩
  have h0 : Kept (Below w.heap.size w W) := ⟨by rw [hW]; exact (Below.refl _ _).alloc (Nat.le_refl _) _⟩
  have CS : Kept (∀ j x, signsN[j]? = some x → W.cell? ⟨w.heap.size, j, none⟩ = some (.string ⟨x.toArray⟩)) := ⟨fun j x hx => by rw [hW, World.cell?_alloc_new, signsV_at j x hx]⟩
  unfold signsV at hW
  rw [← hW]
  clear hW
  go_loopw [2, 3, 4, 5] (fun i _ _ _ wx => ∃ k : Nat, k ≤ 24 ∧ i = .int .i64 k ∧ Below W.heap.size W wx) (fun i _ _ _ _ => 24 - (intOf i).toNat)
  case atStart => exact ⟨0, by omega, rfl, Below.refl _ _⟩
  case round =>
    obtain ⟨k, hk, rfl, hb⟩ := hrel
    have HB := Kept.mk hb
    by_cases hlt : k < 24
    · obtain ⟨x, hx⟩ : ∃ x, signsN[k]? = some x := ⟨signsN[k]'hlt, List.getElem?_eq_getElem hlt⟩
      have c0 := cell_keep hb (CS.out k x hx)
      have hsc := signs_scan x (List.mem_of_getElem? hx)
      have hxl : 1 ≤ x.length ∧ x.length ≤ 2 := by
        have h := signsN_len
        rw [List.all_eq_true] at h
        simpa using h x (List.mem_of_getElem? hx)
      obtain ⟨X, hX⟩ : ∃ X : ByteArray, X = ⟨x.toArray⟩ := ⟨_, rfl⟩
      have hXs : X.size = x.length := by rw [hX]; simp [ByteArray.size]
      rw [← hX] at c0
      have hdl : (⟨#[32]⟩ ++ X ++ ⟨#[10]⟩ : ByteArray).data.toList = 32 :: (x ++ [10]) := by rw [Joins.data_append, Joins.data_append, hX]; rfl
      rw [← hdl] at hsc
      have CX : Kept (W.cell? ⟨w.heap.size, k, none⟩ = some (.string X)) := ⟨by rw [hX]; exact CS.out k x hx⟩
      have CN := Kept.mk (fun wx hx' => scan_ok (⟨#[32]⟩ ++ X ++ ⟨#[10]⟩) _ wx (by rw [ByteArray.size_append, ByteArray.size_append]; show 1 + X.size + 1 ≤ _; omega) hx' hsc 2 rfl (by decide))
      have i0 : (0 : Int) ≤ (k : Int) := by omega
      have i1 : (k : Int) < 24 := by omega
      have z1 : 1 ≤ X.size ∧ X.size ≤ 2 := by omega
      obtain ⟨z2, z3⟩ := z1
      have HXX := Kept.mk hX
      have HXS := Kept.mk hXs
      clear hx hsc hdl hX hb hxl hXs
      go_wp2_with (fail)
      refine (CN.out _ (HT.out.below (below_any h0.out HB.out))).mono ?_; rintro e w1 ⟨g, c, rfl, hr, hb1⟩
      have R1 := Kept.mk hr
      have B1 := Kept.mk (below_any HB.out hb1)
      clear hr hb1
      have A1 : Kept (Below w1.heap.size w1 (w1.alloc (.cells #[.int .i64 0, .int .i64 0] 26))) := ⟨(Below.refl _ _).alloc (Nat.le_refl _) _⟩
      have R2 := R1.out.below A1.out
      obtain ⟨_, _, hA, hcell⟩ := R2 (by simp)
      cases hA
      obtain ⟨d0, d1, d2, d3⟩ := hcell 0 _ rfl
      obtain ⟨_, _, _, d7⟩ := hcell 1 _ rfl
      simp only [Nat.zero_add, Nat.zero_mul, Nat.one_mul] at d0 d1 d2 d3 d7
      rw [← HXX.out] at d1
      rw [← HXS.out] at d7
      have B2 := Kept.mk (below_any B1.out A1.out)
      have e0 := cell_keep B2.out CX.out
      clear hcell c0
      go_wp2_with (fail)
      go_quiet (fail)
      go_wp2_with (fail)
      go_loopw [5] (fun i wx => ∃ j : Nat, j ≤ 24 ∧ i = .int .i64 j ∧ Below W.heap.size W wx) (fun i _ => 24 - (intOf i).toNat)
      case atStart => exact ⟨0, by omega, rfl, below_drewN B2.out _⟩
      case round =>
        obtain ⟨j, hj, rfl, hb2⟩ := hrel
        have HB2 := Kept.mk hb2
        by_cases hlt2 : j < 24
        · obtain ⟨y, hy⟩ : ∃ y, signsN[j]? = some y := ⟨signsN[j]'hlt2, List.getElem?_eq_getElem hlt2⟩
          have q0 := cell_keep hb2 CX.out
          have q1 := cell_keep hb2 (CS.out j y hy)
          obtain ⟨Y, hY⟩ : ∃ Y : ByteArray, Y = ⟨y.toArray⟩ := ⟨_, rfl⟩
          have hyl : 1 ≤ y.length ∧ y.length ≤ 2 := by
            have h := signsN_len
            rw [List.all_eq_true] at h
            simpa using h y (List.mem_of_getElem? hy)
          have hYs : Y.size = y.length := by rw [hY]; simp [ByteArray.size]
          rw [← hY] at q1
          have z4 : Y.size ≤ 2 := by omega
          have j0 : (0 : Int) ≤ (j : Int) := by omega
          have j1 : (j : Int) < 24 := by omega
          have t1 : ¬ 9223372036854775807 < X.size + Y.size := by omega
          have t2 : ¬ 9223372036854775807 < 1 + X.size := by omega
          have t3 : ¬ 9223372036854775807 < 1 + X.size + 1 := by omega
          have t4 : ¬ 9223372036854775807 < 1 + X.size + 1 + Y.size := by omega
          clear hy hY hyl hYs hb2 d0 d1 d2 d3 d7 e0
          go_wp2_with (fail)
          go_region_held3 (fun wx => wx.cell? ⟨w.heap.size, k, none⟩ = some (.string X) ∧ wx.cell? ⟨w.heap.size, j, none⟩ = some (.string Y) ∧ Below W.heap.size W wx) (first
            | assumption
            | exact three_draw ⟨q0, q1, HB2.out⟩
            | exact three_below (by assumption) (by assumption)
            | exact three_below (three_draw ⟨q0, q1, HB2.out⟩) (by assumption)) (first
            | (go_at_call 9; refine (lexScans_any _ _ (HT.out.below (below_any h0.out (draw_below HB2.out)))).mono ?_; rintro e w5 ⟨rfl, h5⟩)
            | (go_at_call 9; refine (lexScans_any _ _ (HT.out.below (below_any h0.out (And.right (And.right (by assumption)))))).mono ?_; rintro e w6 ⟨rfl, h6⟩))
          all_goals
            go_wp2_with (fail)
            go_roundw
            case rel => exact ⟨j + 1, by omega, by go_num, And.right (And.right (by with_reducible assumption))⟩
            case measure => simp [intOf]; omega
        · obtain rfl : j = 24 := by omega
          clear hb2 d0 d1 d2 d3 d7 e0
          go_wp2_with (fail)
          go_roundw
          case rel => exact ⟨k + 1, by omega, by go_num, HB2.out⟩
          case measure => simp [intOf]; omega
    · obtain rfl : k = 24 := by omega
      have g0 := Kept.mk (below_any h0.out HB.out)
      clear hb
      go_wp2_with (fail)
      refine (rep_name _).mono ?_; rintro e w1 ⟨nm, rfl, hnm, hb1⟩
      have z0 : nm.size ≤ 1000 := by rw [hnm, nameB_size]; decide
      have fn1 : ∀ wx, Env wx → Calls Tryz.prog 13 #[.string (nm ++ ⟨#[110]⟩), .int .i64 220, .int .i64 0] wx fun e w' => e = .returned (.bool true) ∧ Below wx.heap.size wx w' := fun wx hx => fault_n1 nm z0 (name_14 nm hnm) wx hx
      have fn2 : ∀ wx, Env wx → Calls Tryz.prog 13 #[.string (⟨#[36]⟩ ++ nm ++ ⟨#[110]⟩), .int .i64 220, .int .i64 0] wx fun e w' => e = .returned (.bool true) ∧ Below wx.heap.size wx w' := fun wx hx => fault_n2 nm z0 (name_15 nm hnm) wx hx
      have FN1 := Kept.mk fn1
      have FN2 := Kept.mk fn2
      clear fn1 fn2
      clear hnm
      have g1 := Kept.mk (below_any g0.out hb1)
      clear hb1
      go_wp2_with (fail)
      refine (scan_ok longS longT _ (by decide) (HT.out.below g1.out) long_1 14 rfl (by decide)).mono ?_; rintro e w2 ⟨g, c, rfl, hr2, hb2⟩
      have R2 := Kept.mk hr2
      have g2 := Kept.mk (below_any g1.out hb2)
      clear hr2 hb2
      have A2 : Kept (Below w2.heap.size w2 (w2.alloc (.cells #[.int .i64 0, .int .i64 0] 26))) := ⟨(Below.refl _ _).alloc (Nat.le_refl _) _⟩
      have g3 := Kept.mk (below_any g2.out A2.out)
      have hS := spelt_any (some ⟨g, 0, none⟩) longT c _ (R2.out.below A2.out) (by decide) long_3 (HT.out.below g3.out)
      rw [long_2] at hS
      have HS := Kept.mk hS
      clear hS
      go_wp2_with (fail)
      refine HS.out.mono ?_; rintro e w4 ⟨rfl, hb4⟩
      have g4 := Kept.mk (below_any g3.out hb4)
      clear hb4
      unfold longU
      go_wp2_with (fail)
      refine (lexScans_any _ _ (HT.out.below g4.out)).mono ?_; rintro e w5 ⟨rfl, hb5⟩
      have g5 := Kept.mk (below_any g4.out hb5)
      clear hb5
      go_wp2_with (fail)
      refine (lexScans_any _ _ (HT.out.below g5.out)).mono ?_; rintro e w6 ⟨rfl, hb6⟩
      have g6 := Kept.mk (below_any g5.out hb6)
      clear hb6
      go_wp2_with (fail)
      obtain ⟨V, hV⟩ : ∃ V, V = w6.alloc (.cells (toksC badT).toArray 36) := ⟨_, rfl⟩
      have RV : Kept (RdT V (some ⟨w6.heap.size, 0, none⟩) badT) := ⟨by rw [hV]; exact rdt_lit _ _ _⟩
      have g7 : Kept (Below w.heap.size w V) := ⟨by rw [hV]; exact below_any g6.out ((Below.refl _ _).alloc (Nat.le_refl _) _)⟩
      rw [show (toksC badT).toArray = #[.int .u8 1, .string ⟨#[]⟩, .int .i64 0, .int .i64 0, .int .u8 1, .string ⟨#[49]⟩, .int .i64 0, .int .i64 0, .int .u8 1, .string ⟨#[97]⟩, .int .i64 1, .int .i64 0, .int .u8 2, .string ⟨#[]⟩, .int .i64 (-1), .int .i64 0, .int .u8 2, .string ⟨#[49]⟩, .int .i64 0, .int .i64 0, .int .u8 3, .string ⟨#[255]⟩, .int .i64 0, .int .i64 0, .int .u8 4, .string ⟨#[]⟩, .int .i64 0, .int .i64 0, .int .u8 5, .string ⟨#[33]⟩, .int .i64 0, .int .i64 0, .int .u8 5, .string ⟨#[]⟩, .int .i64 0, .int .i64 0, .int .u8 6, .string ⟨#[]⟩, .int .i64 0, .int .i64 0, .int .u8 0, .string ⟨#[120]⟩, .int .i64 0, .int .i64 0, .int .u8 0, .string ⟨#[]⟩, .int .i64 1, .int .i64 0, .int .u8 4, .string ⟨#[120]⟩, .int .i64 1, .int .i64 0] from rfl] at hV
      rw [← hV]
      clear hV
      go_loopw [11, 12, 13] (fun i _ _ wx => ∃ j : Nat, j ≤ 13 ∧ i = .int .i64 j ∧ Below V.heap.size V wx) (fun i _ _ _ => 13 - (intOf i).toNat)
      case atStart => exact ⟨0, by omega, rfl, Below.refl _ _⟩
      case round =>
        obtain ⟨j, hj, rfl, hb7⟩ := hrel
        have HB7 := Kept.mk hb7
        by_cases hlt2 : j < 13
        · obtain ⟨y, hy⟩ : ∃ y, badT[j]? = some y := ⟨badT[j]'hlt2, List.getElem?_eq_getElem hlt2⟩
          obtain ⟨_, _, hA, hcell⟩ := (RV.out.below hb7) (by intro e; cases e)
          cases hA
          obtain ⟨d0, d1, d2, d3⟩ := hcell j y hy
          simp only [Nat.zero_add] at d0 d1 d2 d3
          have hm := List.mem_of_getElem? hy
          obtain ⟨b1, b2, b3⟩ := bad_2 y hm
          have hn : Plx.spellL y.1 = none := by
            have h := bad_1
            rw [List.all_eq_true] at h
            simpa using h y hm
          have hS := fun wx hx => spell_tok y wx b1 b2 b3 hx
          rw [hn] at hS
          have HS2 := Kept.mk hS
          have j0 : (0 : Int) ≤ (j : Int) := by omega
          have j1 : (j : Int) < 13 := by omega
          clear hS hn hm hcell hy hb7
          go_wp2_with (fail)
          refine (HS2.out _ (HT.out.below (below_any g7.out HB7.out))).mono ?_; rintro e w8 ⟨rfl, hb8⟩
          have HB8 := Kept.mk (below_any HB7.out hb8)
          clear hb8
          unfold spR
          go_wp2_with (fail)
          go_roundw
          case rel => exact ⟨j + 1, by omega, by go_num, HB8.out⟩
          case measure => simp [intOf]; omega
        · obtain rfl : j = 13 := by omega
          have k0 := Kept.mk (below_any g7.out HB7.out)
          clear hb7
          go_wp2_with (fail)
          refine (fault_any ⟨#[49, 97]⟩ 220 0 _ (by decide) (HT.out.below k0.out) fault_0).mono ?_; rintro e u0 ⟨rfl, hb9⟩
          have k101 := Kept.mk (below_any k0.out hb9)
          clear hb9
          go_wp2_with (fail)
          refine (fault_any ⟨#[49, 50, 32, 57, 50, 50, 51, 51, 55, 50, 48, 51, 54, 56, 53, 52, 55, 55, 53, 56, 48, 56]⟩ 251 3 _ (by decide) (HT.out.below k101.out) fault_1).mono ?_; rintro e u1 ⟨rfl, hb9⟩
          have k102 := Kept.mk (below_any k101.out hb9)
          clear hb9
          go_wp2_with (fail)
          refine (fault_any ⟨#[57, 57, 57, 57, 57, 57, 57, 57, 57, 57, 57, 57, 57, 57, 57, 57, 57, 57, 57, 57, 57, 57, 57, 57, 57, 57, 97]⟩ 220 0 _ (by decide) (HT.out.below k102.out) fault_2).mono ?_; rintro e u2 ⟨rfl, hb9⟩
          have k103 := Kept.mk (below_any k102.out hb9)
          clear hb9
          go_wp2_with (fail)
          refine (fault_any ⟨#[97, 32, 39, 32, 98]⟩ 220 2 _ (by decide) (HT.out.below k103.out) fault_3).mono ?_; rintro e u3 ⟨rfl, hb9⟩
          have k104 := Kept.mk (below_any k103.out hb9)
          clear hb9
          go_wp2_with (fail)
          refine (fault_any ⟨#[39, 97, 39, 39]⟩ 220 0 _ (by decide) (HT.out.below k104.out) fault_4).mono ?_; rintro e u4 ⟨rfl, hb9⟩
          have k105 := Kept.mk (below_any k104.out hb9)
          clear hb9
          go_wp2_with (fail)
          refine (fault_any ⟨#[36, 32, 97]⟩ 220 0 _ (by decide) (HT.out.below k105.out) fault_5).mono ?_; rintro e u5 ⟨rfl, hb9⟩
          have k106 := Kept.mk (below_any k105.out hb9)
          clear hb9
          go_wp2_with (fail)
          refine (fault_any ⟨#[36, 49]⟩ 220 0 _ (by decide) (HT.out.below k106.out) fault_6).mono ?_; rintro e u6 ⟨rfl, hb9⟩
          have k107 := Kept.mk (below_any k106.out hb9)
          clear hb9
          go_wp2_with (fail)
          refine (fault_any ⟨#[97, 32, 33, 32, 98]⟩ 220 2 _ (by decide) (HT.out.below k107.out) fault_7).mono ?_; rintro e u7 ⟨rfl, hb9⟩
          have k108 := Kept.mk (below_any k107.out hb9)
          clear hb9
          go_wp2_with (fail)
          refine (fault_any ⟨#[97, 32, 58, 32, 98]⟩ 220 2 _ (by decide) (HT.out.below k108.out) fault_8).mono ?_; rintro e u8 ⟨rfl, hb9⟩
          have k109 := Kept.mk (below_any k108.out hb9)
          clear hb9
          go_wp2_with (fail)
          refine (fault_any ⟨#[40, 58, 32, 97]⟩ 220 0 _ (by decide) (HT.out.below k109.out) fault_9).mono ?_; rintro e u9 ⟨rfl, hb9⟩
          have k110 := Kept.mk (below_any k109.out hb9)
          clear hb9
          go_wp2_with (fail)
          refine (fault_any ⟨#[40, 58, 32, 40, 58, 32, 58, 41]⟩ 220 0 _ (by decide) (HT.out.below k110.out) fault_10).mono ?_; rintro e u10 ⟨rfl, hb9⟩
          have k111 := Kept.mk (below_any k110.out hb9)
          clear hb9
          go_wp2_with (fail)
          refine (fault_any ⟨#[40, 58, 41]⟩ 220 0 _ (by decide) (HT.out.below k111.out) fault_11).mono ?_; rintro e u11 ⟨rfl, hb9⟩
          have k112 := Kept.mk (below_any k111.out hb9)
          clear hb9
          go_wp2_with (fail)
          refine (fault_any ⟨#[97, 255]⟩ 120 1 _ (by decide) (HT.out.below k112.out) fault_12).mono ?_; rintro e u12 ⟨rfl, hb9⟩
          have k113 := Kept.mk (below_any k112.out hb9)
          clear hb9
          go_wp2_with (fail)
          refine (fault_any ⟨#[33, 32, 0]⟩ 120 2 _ (by decide) (HT.out.below k113.out) fault_13).mono ?_; rintro e u13 ⟨rfl, hb9⟩
          have k114 := Kept.mk (below_any k113.out hb9)
          clear hb9
          go_wp2_with (fail)
          refine (FN1.out _ (HT.out.below k114.out)).mono ?_; rintro e u14 ⟨rfl, hb9⟩
          have k115 := Kept.mk (below_any k114.out hb9)
          clear hb9
          go_wp2_with (fail)
          refine (FN2.out _ (HT.out.below k115.out)).mono ?_; rintro e u15 ⟨rfl, hb9⟩
          have k116 := Kept.mk (below_any k115.out hb9)
          clear hb9
          go_wp2_with (fail)
          refine (rep_blank _).mono ?_; rintro e v16 ⟨y, rfl, hys, hb9⟩
          have kr := Kept.mk (below_any k116.out hb9)
          have hyf : Plx.scanL y.data.toList = .error (3, 0) := by unfold Plx.scanL; rw [if_pos (by rw [size_len, hys]; decide)]
          clear hb9
          go_wp2_with (fail)
          refine (fault_any y 3 0 _ (by omega) (HT.out.below kr.out) hyf).mono ?_; rintro e u16 ⟨rfl, hb9⟩
          have k117 := Kept.mk (below_any kr.out hb9)
          clear hb9 hyf hys
          go_wp2_with (fail)
          refine (fault_any ⟨#[35]⟩ 220 0 _ (by decide) (HT.out.below k117.out) fault_17).mono ?_; rintro e u17 ⟨rfl, hb9⟩
          have k118 := Kept.mk (below_any k117.out hb9)
          clear hb9
          go_wp2_with (fail)
          refine (fault_any ⟨#[194, 160, 97]⟩ 220 0 _ (by decide) (HT.out.below k118.out) fault_18).mono ?_; rintro e u18 ⟨rfl, hb9⟩
          have k119 := Kept.mk (below_any k118.out hb9)
          clear hb9
          go_wp2_with (fail)
          refine (awake_any _ (HT.out.below k119.out)).mono ?_; rintro e w9 ⟨rfl, hb9⟩
          have k9 := Kept.mk (below_any k119.out hb9)
          clear hb9
          go_wp2_with (fail)
          go_ret
          exact ⟨rfl, k9.out⟩
end Go.Proofs.YtfamljigcffngaaGreatDoor.Wlx
