/- The walk over LexPlaces (chapter 22). -/
import Derived.Test.YtfamljigcffngaaDoorLexBareB
import Derived.Test.YtfamljigcffngaaDoorLexAgain
import Derived.Deep.RegionHeld3
import Derived.IntWalk
import Derived.BigQuiet
import Derived.Deep.QuietTactic
namespace Go.Proofs.YtfamljigcffngaaDoor.Wlx
open Go Go.RowKit Go.Proofs.YtfamljigcffngaaDoor.Wch

theorem scanG_ne : ∀ (f a : Nat) (l : List UInt8) (e p : Nat), l.length < f → Plx.scanG f a l = .error (e, p) → e ≠ 0
  | 0, _, _, _, _, h, _ => by omega
  | f + 1, a, l, e, p, hf, h => by
    have ht := Plx.trimB_le l
    unfold Plx.scanG at h
    split at h
    · cases h
    · rename_i hne
      split at h
      · split at h
        · cases h; decide
        · rename_i n hc
          have hb := Plx.com_le _ _ _ hc
          exact scanG_ne f _ _ _ _ (by rw [List.length_drop]; omega) h
      · split at h
        · rename_i e' he
          cases h
          have := Plx.tokL_err _ hne _ he
          omega
        · rename_i x hx
          have hb := Plx.tokL_le _ _ hx
          split at h
          · rename_i e' he
            cases h
            exact scanG_ne f _ _ _ _ (by rw [List.length_drop]; omega) he
          · cases h
theorem scanL_ne (l : List UInt8) (e p : Nat) (h : Plx.scanL l = .error (e, p)) : e ≠ 0 := by
  unfold Plx.scanL at h
  split at h
  · cases h; decide
  · split at h
    · cases h; decide
    · exact scanG_ne _ _ _ _ _ (Nat.lt_succ_self _) h
set_option maxRecDepth 100000 in
set_option maxHeartbeats 2000000 in
/-- a text that is refused -/
theorem places_bad (s : ByteArray) (a b : Nat) (w : World) (ht : Env w) (hs : s.size ≤ 3000) (h : Plx.scanL s.data.toList = .error (a, b)) (ha : a ≠ 0) (hb : b ≤ s.size) :
    Calls Tryd.prog 5 #[.string s] w fun e w' => e = .returned (.bool true) ∧ Below w.heap.size w w' := by
  have HT := Kept.mk ht
  have hs' : ¬ (3000 : Int) < (s.size : Int) := by omega
  have cS := fun wx hx => scan_bad s a b wx (by omega) hx h
  have CS := Kept.mk cS
  have k0 : (0 : Int) ≤ (b : Int) := by omega
  have k1 : (b : Int) ≤ (s.size : Int) := by omega
  have k2 : (a : Int) ≠ 0 := by omega
  clear ht cS h
  go_enter Tryd.func5, Tryd.ntmps5
  go_wp2_with (fail)
  refine (awake_any _ HT.out).mono ?_; rintro e w1 ⟨rfl, hb1⟩
  have B1 := Kept.mk hb1
  clear hb1
  go_wp2_with (fail)
  refine (CS.out _ (HT.out.below B1.out)).mono ?_; rintro e w2 ⟨rfl, hb2⟩
  have B2 := Kept.mk (below_any B1.out hb2)
  clear hb2
  go_wp2_with (fail)
  go_ret
  exact ⟨rfl, below_any B2.out (Joins.below_alloc1 _ _)⟩
theorem scan_len : ∀ (f a : Nat) (l : List UInt8) (ts : List (Plx.Tok × Nat)), Plx.scanG f a l = .ok ts → ts.length ≤ l.length + 1
  | 0, _, _, _, h => by cases h
  | f + 1, a, l, ts, h => by
    have hle := Plx.trimB_le l
    unfold Plx.scanG at h
    split at h
    · cases h; simp
    · split at h
      · split at h
        · cases h
        · rename_i n hc
          have hb := Plx.com_le _ _ _ hc
          have := scan_len f _ _ ts h
          rw [List.length_drop] at this
          omega
      · split at h
        · cases h
        · rename_i x hx
          have hb := Plx.tokL_le _ _ hx
          split at h
          · cases h
          · rename_i ts' he
            cases h
            have := scan_len f _ _ _ he
            rw [List.length_drop] at this
            simp only [List.length_cons]
            omega
theorem scan_fit : ∀ (f a : Nat) (l : List UInt8) (ts : List (Plx.Tok × Nat)), Plx.scanG f a l = .ok ts → ∀ x ∈ ts, x.1.2.1.length ≤ l.length
  | 0, _, _, _, h, _, _ => by cases h
  | f + 1, a, l, ts, h, y, hy => by
    have hle := Plx.trimB_le l
    unfold Plx.scanG at h
    split at h
    · cases h
      rcases List.mem_singleton.1 hy with rfl
      simp
    · split at h
      · split at h
        · cases h
        · rename_i n hc
          have := scan_fit f _ _ ts h y hy
          rw [List.length_drop] at this
          omega
      · split at h
        · cases h
        · rename_i x hx
          have hb := Plx.tokL_le _ _ hx
          split at h
          · cases h
          · rename_i ts' he
            cases h
            rcases List.mem_cons.1 hy with rfl | hy
            · dsimp only
              omega
            · have := scan_fit f _ _ _ he y hy
              rw [List.length_drop] at this
              omega
theorem writ_num (t : Plx.Tok) (h : Plx.Writ t) : 0 ≤ t.2.2 := by
  obtain ⟨h0, _, w, h⟩ := h
  unfold Plx.spellL at h
  repeat' (split at h)
  all_goals first | (cases h; done) | (rename_i g; obtain ⟨_, g⟩ := g; omega) | (rename_i g; obtain ⟨g, _⟩ := g; omega) | (rename_i g; obtain ⟨_, _, g⟩ := g; omega)
theorem slice_data (s : ByteArray) (i j : Nat) : (s.extract i j).data.toList = (s.data.toList.take j).drop i := by
  rw [ByteArray.data_extract, Array.toList_extract, List.extract_eq_take_drop, List.drop_take]
theorem neq_fault (w : World) : (binOp .neq 34 (.agg #[.int .i64 0, .int .i64 0]) (.agg #[.int .i64 0, .int .i64 0])).run Tryd.prog w = .ok (.bool false) w := by kernel_rfl
theorem RdT.set {w : World} {g b o : Nat} {u : Value} {l : List (Plx.Tok × Nat)} (h : RdT w (some ⟨g, 0, none⟩) l) (hne : b ≠ g) : RdT (w.setCell ⟨b, o, none⟩ u) (some ⟨g, 0, none⟩) l := by
  intro hl
  obtain ⟨b', off, hA, hc⟩ := h hl
  cases hA
  refine ⟨g, 0, rfl, fun j x hx => ?_⟩
  obtain ⟨c0, c1, c2, c3⟩ := hc j x hx
  exact ⟨by rw [World.cell?_setCell_far _ _ _ _ hne]; exact c0, by rw [World.cell?_setCell_far _ _ _ _ hne]; exact c1, by rw [World.cell?_setCell_far _ _ _ _ hne]; exact c2, by rw [World.cell?_setCell_far _ _ _ _ hne]; exact c3⟩
theorem eql_tok (k : Int) (s : ByteArray) (n a : Int) (w : World) : (binOp .eql 24 (.agg #[.int .u8 k, .string s, .int .i64 n, .int .i64 a]) (.agg #[.int .u8 k, .string s, .int .i64 n, .int .i64 a])).run Tryd.prog w = .ok (.bool true) w := by
  rw [run_eql_struct, eq_tok]
  rfl
theorem spells_len : ∀ (l : List (Plx.Tok × Nat)), Fit l → (spellsL l).length ≤ l.length * 200000
  | [], _ => by simp [spellsL]
  | x :: l, h => by
    have h1 := spells_len l fun y hy => h y (.tail _ hy)
    obtain ⟨f1, f2, f3⟩ := h x (.head _)
    have h2 := spellW_len x.1 f1 f2 f3
    have e : spellsL (x :: l) = spellW x.1 ++ [32] ++ spellsL l := rfl
    rw [e, List.length_append, List.length_append, List.length_singleton, List.length_cons]
    omega
theorem scan_own (s : ByteArray) (l : List (Plx.Tok × Nat)) (w : World) (hs : s.size ≤ 281474976710656) (ht : Env w) (h : Plx.scanL s.data.toList = .ok l) (n : Nat) (hl : l.length = n) (hn : 0 < n) :
    Calls Tryd.prog 10 #[.string s] w fun e w' => ∃ g c, e = .returned (.tuple #[.slice (some ⟨g, 0, none⟩) n c, .agg #[.int .i64 0, .int .i64 0]]) ∧ w.heap.size ≤ g ∧ RdT w' (some ⟨g, 0, none⟩) l ∧ Below w.heap.size w w' := by
  subst hl
  have h1 := scan_any s w hs ht
  rw [h] at h1
  refine h1.mono fun e w' hp => ?_
  obtain ⟨hb, v, he, hown⟩ := hp
  obtain ⟨g, c, rfl, _, _⟩ := hown.form hn
  exact ⟨g, c, he, (hown.lt g rfl).1, rdt_of_own hown, hb⟩
set_option maxRecDepth 200000 in
set_option maxHeartbeats 4000000 in
/-- a text that is scanned -/
theorem places_ok (s : ByteArray) (l : List (Plx.Tok × Nat)) (w : World) (ht : Env w) (hs : s.size ≤ 3000) (h : Plx.scanL s.data.toList = .ok l) :
    Calls Tryd.prog 5 #[.string s] w fun e w' => e = .returned (.bool true) ∧ Below w.heap.size w w' := by
  have HT := Kept.mk ht
  have hs' : ¬ (3000 : Int) < (s.size : Int) := by omega
  have hpos : 0 < l.length := by
    obtain ⟨ts', e, _⟩ := shape_of h
    rw [e]
    simp
  have hlen : l.length ≤ 3001 := by
    have := scan_len _ _ _ _ (scanL_ok h).2.2
    rw [size_len] at this
    omega
  have FT : Kept (Fit l) := by
    refine ⟨fun x hx => ?_⟩
    have g1 := scan_fit _ _ _ _ (scanL_ok h).2.2 x hx
    rw [size_len] at g1
    obtain ⟨ts', e, hw⟩ := shape_of h
    rw [e] at hx
    rcases List.mem_append.1 hx with hx | hx
    · have g2 := writ_num _ (hw x hx)
      have g3 := (hw x hx).2.1
      exact ⟨by omega, by omega, g3⟩
    · rcases List.mem_singleton.1 hx with rfl
      exact ⟨by simp, by simp, by simp⟩
  have cS := fun wx hx => scan_ok s l wx (by omega) hx h l.length rfl hpos
  have CS := Kept.mk cS
  have PK := Kept.mk (fun (i : Nat) (x y : Plx.Tok × Nat) (hx : l[i]? = some x) (hy : l[i + 1]? = some y) => pair_of h hx hy)
  clear ht cS
  go_enter Tryd.func5, Tryd.ntmps5
  go_wp2_with (fail)
  refine (awake_any _ HT.out).mono ?_; rintro e w1 ⟨rfl, hb1⟩
  have B1 := Kept.mk hb1
  clear hb1
  go_wp2_with (fail)
  refine (CS.out _ (HT.out.below B1.out)).mono ?_; rintro e w2 ⟨g, c, rfl, hr2, hb2⟩
  have R2 := Kept.mk hr2
  have B2 := Kept.mk (below_any B1.out hb2)
  clear hb2 hr2 CS
  go_wp2_with (fail)
  go_loopw [5] (fun i wx => ∃ k : Nat, k + 1 ≤ l.length ∧ i = .int .i64 k ∧ Below w2.heap.size w2 wx) (fun i _ => l.length - (intOf i).toNat)
  case atStart => exact ⟨0, by omega, rfl, Joins.below_alloc1 _ _⟩
  case round =>
    obtain ⟨k, hk, rfl, hw⟩ := hrel
    by_cases hlt : k + 1 < l.length
    · obtain ⟨x, hx⟩ : ∃ x, l[k]? = some x := ⟨_, List.getElem?_eq_getElem (by omega)⟩
      obtain ⟨y, hy⟩ : ∃ y, l[k + 1]? = some y := ⟨_, List.getElem?_eq_getElem hlt⟩
      obtain ⟨p1, p2, ⟨v, q1, q2⟩, p3⟩ := PK.out k x y hx hy
      rw [← slice_data] at p3
      obtain ⟨f1, f2, f3⟩ := FT.out x (List.mem_of_getElem? hx)
      obtain ⟨_, _, hA, hc⟩ := (R2.out.below hw) (by intro e; subst e; simp at hlt)
      cases hA
      obtain ⟨c0, c1, c2, c3⟩ := hc k x hx
      obtain ⟨_, _, _, d3⟩ := hc (k + 1) y hy
      have i0 : (0 : Int) ≤ (k : Int) := by omega
      have i1 : (k : Int) < (l.length : Int) := by omega
      have i2 : (k : Int) + 1 < (l.length : Int) := by omega
      have i3 : (k : Int) + 1 ≤ 3001 := by omega
      have i4 : Int.toNat ((k : Int) + 1) = k + 1 := by omega
      have i5 : wrap64 ((k : Int) + 1) = (k : Int) + 1 := by unfold wrap64; omega
      have j0 : ¬ (x.2 : Int) < 0 := by omega
      have j1 : ¬ (y.2 : Int) ≤ (x.2 : Int) := by omega
      have j2 : decide ((x.2 : Int) < 0) = false := decide_eq_false j0
      have j3 : decide ((y.2 : Int) ≤ (x.2 : Int)) = false := decide_eq_false j1
      have j4 : (0 : Int) ≤ (x.2 : Int) := by omega
      clear hc hx hy
      simp only [Nat.zero_add] at c0 c1 c2 c3 d3
      go_wp2_with (fail)
      go_region
      go_wp2_with (fail)
      have cP := fun wx hx' => spell_tok x wx f1 f2 f3 hx'
      rw [q1] at cP
      simp only [spR] at cP
      obtain ⟨vv, hvv⟩ : ∃ vv : ByteArray, vv = ⟨v.toArray⟩ := ⟨_, rfl⟩
      have q3 : vv.toList.isEmpty = false := by rw [ByteArray.toList_eq, hvv]; simpa using q2
      rw [← hvv] at cP
      clear hvv q1 q2
      refine (cP _ ((HT.out.below B2.out).below hw.drew)).mono ?_; rintro e w4 ⟨rfl, hb4⟩
      clear cP
      go_wp2_with (fail)
      have B4 := Kept.mk (below_any (hw.drew) hb4)
      have hl : (s.extract x.2 y.2).data.toList = (s.data.toList.take y.2).drop x.2 := slice_data s x.2 y.2
      have cS2 := fun wx hx => scan_own (s.extract x.2 y.2) [(x.1, 0), ((0, [], 0), y.2 - x.2)] wx (by have := size_len s; rw [← size_len, hl, List.length_drop, List.length_take]; omega) hx p3 2 rfl (by omega)
      have CS2 := Kept.mk cS2
      have c0 := cell_keep hb4 c0
      have c1 := cell_keep hb4 c1
      have c2 := cell_keep hb4 c2
      have c3 := cell_keep hb4 c3
      have d3 := cell_keep hb4 d3
      have j5 : (x.2 : Int) ≤ (y.2 : Int) := by omega
      have j6 : (y.2 : Int) ≤ (s.size : Int) := by rw [← size_len]; omega
      clear cS2 hl hb4 p3
      go_wp2_with (fail)
      have i6 : (0 : Int) ≤ (k : Int) + 1 := by omega
      have i7 : IntKind.i64.wrap ((k : Int) + 1) = (k : Int) + 1 := IntWalk.i64_in _ (by omega)
      have BB : Kept (Below w.heap.size w w4) := ⟨B2.out.trans (B4.out.mono B2.out.size)⟩
      have nc := World.new_ne w4 _ c3
      have nd := World.new_ne w4 _ d3
      go_region_held3 (fun wx => wx.cell? ⟨g, k * 4 + 3, none⟩ = some (.int .i64 x.2) ∧ wx.cell? ⟨g, (k + 1) * 4 + 3, none⟩ = some (.int .i64 y.2)) (first
        | exact ⟨c3, d3⟩
        | exact ⟨cell_keep hb5 c3, cell_keep hb5 d3⟩
        | exact ⟨cell_keep ((Below.refl _ _).alloc (Nat.le_refl _) _) (cell_keep hb5 c3), cell_keep ((Below.refl _ _).alloc (Nat.le_refl _) _) (cell_keep hb5 d3)⟩
        | exact ⟨cell_keep ((Below.refl _ w4).alloc (Nat.le_refl _) _) c3, cell_keep ((Below.refl _ w4).alloc (Nat.le_refl _) _) d3⟩
        | exact ⟨cell_keep hb5 (cell_keep ((Below.refl _ w4).alloc (Nat.le_refl _) _) c3), cell_keep hb5 (cell_keep ((Below.refl _ w4).alloc (Nat.le_refl _) _) d3)⟩
        | exact ⟨cell_keep ((Below.refl _ w4).alloc (Nat.le_refl _) _).drew c3, cell_keep ((Below.refl _ w4).alloc (Nat.le_refl _) _).drew d3⟩
        | exact ⟨cell_keep hb5 (cell_keep ((Below.refl _ w4).alloc (Nat.le_refl _) _).drew c3), cell_keep hb5 (cell_keep ((Below.refl _ w4).alloc (Nat.le_refl _) _).drew d3)⟩
        | exact ⟨cell_keep (hb5.setCell (Nat.le_refl _) _) c3, cell_keep (hb5.setCell (Nat.le_refl _) _) d3⟩
        | go_keep) (first
        | (go_at_call 10; refine (CS2.out _ (HT.out.below (by first | exact BB.out.drew | exact (BB.out.alloc BB.out.size _).drew))).mono ?_; rintro e w5 ⟨g5, d5, rfl, hg5, hr5, hb5⟩; obtain ⟨hc5, hf5⟩ := bcell hb5; have hz5 := hb5.size))
      case' _ =>
        obtain ⟨wf, hwf⟩ : ∃ wf, wf = w5.alloc (.cells #[.int .i64 0, .int .i64 0] 34) := ⟨_, rfl⟩
        have bf : Below w4.heap.size w4 wf := by rw [hwf]; exact below_any (Below.refl _ _).drew (hb5.alloc hb5.size _)
        obtain ⟨F, hF⟩ : ∃ F, F = w5.heap.size := ⟨_, rfl⟩
        have F0 : wf.cell? ⟨F, 0, none⟩ = some (.int .i64 0) := by rw [hwf, hF, World.cell?_alloc_new]; rfl
        have F1 : wf.cell? ⟨F, 1, none⟩ = some (.int .i64 0) := by rw [hwf, hF, World.cell?_alloc_new]; rfl
        have rf : RdT wf (some ⟨g5, 0, none⟩) [(x.1, 0), ((0, [], 0), y.2 - x.2)] := by rw [hwf]; exact hr5.below ((Below.refl _ _).alloc (Nat.le_refl _) _)
        rw [← hwf, ← hF]
      rotate_left
      case' _ =>
        obtain ⟨wf, hwf⟩ : ∃ wf, wf = (w5.setCell ⟨w4.heap.size, 0, none⟩ (.int .i64 0)).setCell ⟨w4.heap.size, 1, none⟩ (.int .i64 0) := ⟨_, rfl⟩
        have bf : Below w4.heap.size w4 wf := by rw [hwf]; exact ((((Below.refl _ w4).alloc (Nat.le_refl _) _).drew.trans (hb5.mono (by simp))).setCell (Nat.le_refl _) _).setCell (Nat.le_refl _) _
        obtain ⟨F, hF⟩ : ∃ F, F = w4.heap.size := ⟨_, rfl⟩
        have k0 : w5.cell? ⟨w4.heap.size, 0, none⟩ = some (.int .i64 0) := by rw [hc5 _ _ (by simp)]; show (w4.alloc _).cell? _ = _; rw [World.cell?_alloc_new]; rfl
        have k1 : w5.cell? ⟨w4.heap.size, 1, none⟩ = some (.int .i64 0) := by rw [hc5 _ _ (by simp)]; show (w4.alloc _).cell? _ = _; rw [World.cell?_alloc_new]; rfl
        have F0 : wf.cell? ⟨F, 0, none⟩ = some (.int .i64 0) := by rw [hwf, hF]; go_simp
        have F1 : wf.cell? ⟨F, 1, none⟩ = some (.int .i64 0) := by rw [hwf, hF]; go_simp
        have rf : RdT wf (some ⟨g5, 0, none⟩) [(x.1, 0), ((0, [], 0), y.2 - x.2)] := by
          have hne : w4.heap.size ≠ g5 := by simp at hg5; omega
          rw [hwf]; exact (hr5.set hne).set hne
        rw [← hwf, ← hF]
      all_goals
        obtain ⟨_, _, hA, hm⟩ := rf (by simp)
        cases hA
        obtain ⟨m0, m1, m2, m3⟩ := hm 0 (x.1, 0) rfl
        simp only [Nat.zero_mul, Nat.zero_add] at m0 m1 m2 m3
        have e0 := cell_keep bf c0
        have e1 := cell_keep bf c1
        have e2 := cell_keep bf c2
        have e3 := cell_keep bf c3
        have BF : Kept (Below w2.heap.size w2 wf) := ⟨B4.out.trans (bf.mono B4.out.size)⟩
        have nF := fun wx => neq_fault wx
        clear hm rf bf hb5 hc5 hf5 hwf hF hr5 hg5 hz5 c0 c1 c2 c3 d3 nc nd
        go_wp2_with (fail)
        go_quiet (fail)
        go_wp2
        go_roundw
        case rel => exact ⟨k + 1, by omega, by go_num, below_drewN BF.out _⟩
        case measure => simp [intOf]; omega
    · have hkk : k + 1 = l.length := by omega
      have hlast : l[k]? = some ((0, [], 0), s.size) := by
        obtain ⟨ts', e, _⟩ := shape_of h
        rw [size_len] at e
        rw [e, List.length_append, List.length_singleton] at hkk
        rw [e, List.getElem?_append_right (by omega), show k - ts'.length = 0 by omega]
        rfl
      have hne : l ≠ [] := by intro e; subst e; simp at hpos
      obtain ⟨_, _, hA, hc⟩ := (R2.out.below hw) hne
      cases hA
      obtain ⟨c0, c1, c2, c3⟩ := hc k _ hlast
      simp only [Nat.zero_add] at c0 c1 c2 c3
      change wr.cell? ⟨g, k * 4, none⟩ = some (.int .u8 0) at c0
      change wr.cell? ⟨g, k * 4 + 1, none⟩ = some (.string ⟨#[]⟩) at c1
      change wr.cell? ⟨g, k * 4 + 2, none⟩ = some (.int .i64 0) at c2
      change wr.cell? ⟨g, k * 4 + 3, none⟩ = some (.int .i64 s.size) at c3
      have t0 : (0 : Int) ≤ (l.length : Int) - 1 := by omega
      have t1 : (1 : Int) ≤ (l.length : Int) := by omega
      have t2 : (l.length : Int) - 1 < (l.length : Int) := by omega
      have t3 : ((l.length : Int) - 1).toNat = k := by omega
      have t4 : ¬ (k : Int) + 1 < (l.length : Int) := by omega
      have hE := fun wx => eql_tok 0 ⟨#[]⟩ 0 s.size wx
      have HW := Kept.mk hw
      have R3 := Kept.mk (R2.out.below hw)
      obtain ⟨z, hz⟩ : ∃ z : ByteArray, z = ⟨(spellsL l).toArray⟩ := ⟨_, rfl⟩
      have hzd : z.data.toList = spellsL l := by rw [hz]
      have cT := fun wx hr hx => spelt_any (some ⟨g, 0, none⟩) l c wx hr (by omega) FT.out hx
      rw [← hz] at cT
      have CT := Kept.mk cT
      clear cT hc hlast PK hw
      have hzs : z.size ≤ 281474976710656 := by
        have := spells_len l FT.out
        rw [← hzd, size_len] at this
        omega
      by_cases hlong : 65536 < z.size
      · have CS := Kept.mk (fun wx hx => scan_bad z 3 0 wx hzs hx (by rw [hzd]; exact again_long (by rw [← hzd, size_len]; exact hlong)))
        clear hz hzd hlong
        go_wp2_with (fail)
        refine (CT.out _ R3.out (HT.out.below (B2.out.trans (HW.out.mono B2.out.size)))).mono ?_; rintro e w3 ⟨rfl, hb3⟩
        have B3 := Kept.mk (below_any (B2.out.trans (HW.out.mono B2.out.size)) hb3)
        have d0 := cell_keep hb3 c0
        have d1 := cell_keep hb3 c1
        have d2 := cell_keep hb3 c2
        have d3 := cell_keep hb3 c3
        clear hb3 c0 c1 c2 c3
        go_wp2_with (fail)
        refine (CS.out _ (HT.out.below B3.out)).mono ?_; rintro e w4 ⟨rfl, hb4⟩
        have B4 := Kept.mk (below_any B3.out hb4)
        have c0 := fun o => cell_keep ((Below.refl _ w4).alloc (Nat.le_refl _) o) (cell_keep hb4 d0)
        have c1 := fun o => cell_keep ((Below.refl _ w4).alloc (Nat.le_refl _) o) (cell_keep hb4 d1)
        have c2 := fun o => cell_keep ((Below.refl _ w4).alloc (Nat.le_refl _) o) (cell_keep hb4 d2)
        have c3 := fun o => cell_keep ((Below.refl _ w4).alloc (Nat.le_refl _) o) (cell_keep hb4 d3)
        clear hb4 d0 d1 d2 d3
        go_wp2_with (fail)
        go_ret
        exact ⟨rfl, B4.out.alloc B4.out.size _⟩
      · obtain ⟨ts2, hs2, hm2⟩ := again_ok h (by rw [← hzd, size_len]; omega)
        rw [← hzd] at hs2
        have hl2 : ts2.length = l.length := by
          have := congrArg List.length hm2
          simpa using this
        have CS := Kept.mk (fun wx hx => scan_ok z ts2 wx hzs hx hs2 l.length hl2 hpos)
        have HB : Kept (ts2.map bareT = l.map bareT) := ⟨by
          have e : ∀ m : List (Plx.Tok × Nat), m.map bareT = (m.map (·.1)).map fun t => (t, 0) := fun m => by simp [bareT, Function.comp_def]
          rw [e, e, hm2]⟩
        have CB := Kept.mk (fun (g c' : Nat) wx hx => by
          have h := bare_any g 0 ts2 c' wx hx (by omega) (by omega)
          rw [hl2] at h
          exact h)
        have CL := Kept.mk (fun (g c' : Nat) wx hx => bare_any g 0 l c' wx hx hpos (by omega))
        have CM := Kept.mk (fun A B (c d : Nat) wx ha hb => by
          have h := same_any A B (l.map bareT) c d wx ha hb (by simp; omega)
          rw [List.length_map] at h
          exact h)
        clear hz hzd hlong hs2 hm2 hl2
        go_wp2_with (fail)
        refine (CT.out _ R3.out (HT.out.below (B2.out.trans (HW.out.mono B2.out.size)))).mono ?_; rintro e w3 ⟨rfl, hb3⟩
        have B3 := Kept.mk (below_any (B2.out.trans (HW.out.mono B2.out.size)) hb3)
        have R4 := Kept.mk (R3.out.below hb3)
        have d0 := cell_keep hb3 c0
        have d1 := cell_keep hb3 c1
        have d2 := cell_keep hb3 c2
        have d3 := cell_keep hb3 c3
        clear hb3 c0 c1 c2 c3
        go_wp2_with (fail)
        refine (CS.out _ (HT.out.below B3.out)).mono ?_; rintro e w4 ⟨g2, c2', rfl, hr4, hb4⟩
        have B4 := Kept.mk (below_any B3.out hb4)
        have R5 := Kept.mk (R4.out.below hb4)
        have S5 := Kept.mk hr4
        have c0 := fun o => cell_keep ((Below.refl _ w4).alloc (Nat.le_refl _) o) (cell_keep hb4 d0)
        have c1 := fun o => cell_keep ((Below.refl _ w4).alloc (Nat.le_refl _) o) (cell_keep hb4 d1)
        have c2 := fun o => cell_keep ((Below.refl _ w4).alloc (Nat.le_refl _) o) (cell_keep hb4 d2)
        have c3 := fun o => cell_keep ((Below.refl _ w4).alloc (Nat.le_refl _) o) (cell_keep hb4 d3)
        clear hb4 d0 d1 d2 d3 hr4
        go_wp2_with (fail)
        have A4 : Kept (Below w4.heap.size w4 (w4.alloc (.cells #[.int .i64 0, .int .i64 0] 34))) := ⟨(Below.refl _ _).alloc (Nat.le_refl _) _⟩
        refine (CB.out _ _ _ (S5.out.below A4.out)).mono ?_; rintro e w5 ⟨g5, c5, rfl, hr5, hb5⟩
        have T5 := Kept.mk hr5
        have R6 := Kept.mk ((R5.out.below A4.out).below hb5)
        have B5 := Kept.mk (below_any (B4.out.alloc B4.out.size (.cells #[.int .i64 0, .int .i64 0] 34)) hb5)
        clear hb5 hr5
        go_wp2_with (fail)
        refine (CL.out _ _ _ R6.out).mono ?_; rintro e w6 ⟨g6, c6, rfl, hr6, hb6⟩
        have T6 := Kept.mk hr6
        have T5b := Kept.mk (T5.out.below hb6)
        have B6 := Kept.mk (below_any B5.out hb6)
        clear hb6 hr6
        go_wp2_with (fail)
        refine (CM.out _ _ _ _ _ (by rw [← HB.out]; exact T5b.out) T6.out).mono ?_; rintro e w7 ⟨rfl, hb7⟩
        have B7 := Kept.mk (below_any B6.out hb7)
        clear hb7
        go_wp2_with (fail)
        go_ret
        exact ⟨rfl, B7.out⟩
set_option maxRecDepth 100000 in
set_option maxHeartbeats 1000000 in
theorem law_places (s : ByteArray) (w : World) (ht : Env w) :
    Calls Tryd.prog 5 #[.string s] w fun e w' => e = .returned (.bool true) ∧ Below w.heap.size w w' := by
  by_cases hs : s.size ≤ 3000
  · cases h : Plx.scanL s.data.toList with
    | ok l => exact places_ok s l w ht hs h
    | error x =>
      obtain ⟨a, b⟩ := x
      have hb := Plx.scanL_err _ _ _ h
      rw [size_len] at hb
      have ha : a ≠ 0 := scanL_ne _ _ _ h
      exact places_bad s a b w ht hs h ha hb
  · have HT := Kept.mk ht
    have hs' : (3000 : Int) < (s.size : Int) := by omega
    clear ht
    go_enter Tryd.func5, Tryd.ntmps5
    go_wp2_with (fail)
    refine (awake_any _ HT.out).mono ?_; rintro e w1 ⟨rfl, hb1⟩
    go_wp2_with (fail)
    go_ret
    exact ⟨rfl, hb1⟩
end Go.Proofs.YtfamljigcffngaaDoor.Wlx
