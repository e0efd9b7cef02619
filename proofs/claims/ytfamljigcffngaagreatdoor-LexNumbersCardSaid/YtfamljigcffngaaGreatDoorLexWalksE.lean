/- The walk over the program's Scan (chapter 22). -/
import Derived.Test.YtfamljigcffngaaGreatDoorLexWalksD
import Derived.Deep.AppendLies
import Derived.Handy
import Derived.Lib.Hide
namespace Go.Proofs.YtfamljigcffngaaGreatDoor.Wlx
open Go Go.RowKit Go.Proofs.YtfamljigcffngaaGreatDoor.Wch

/-- tokens as cells -/
def tokC (x : Plx.Tok × Nat) : List Value := [.int .u8 x.1.1, .string ⟨x.1.2.1.toArray⟩, .int .i64 x.1.2.2, .int .i64 x.2]
def toksC (l : List (Plx.Tok × Nat)) : List Value := l.flatMap tokC
theorem toksC_append (l m : List (Plx.Tok × Nat)) : toksC (l ++ m) = toksC l ++ toksC m := by simp [toksC]
theorem toksC_length (l : List (Plx.Tok × Nat)) : (toksC l).length = l.length * 4 := by
  induction l with
  | nil => rfl
  | cons x l ih => rw [show toksC (x :: l) = tokC x ++ toksC l from rfl, List.length_append, ih]; simp [tokC]; omega
/-- what Scan hands back -/
def Scanned (w : World) (r : Except (Nat × Nat) (List (Plx.Tok × Nat))) (e : Ending) (w' : World) : Prop :=
  Below w.heap.size w w' ∧ match r with
  | .error x => e = .returned (.tuple #[.slice none 0 0, .agg #[.int .i64 x.1, .int .i64 x.2]])
  | .ok l => ∃ v, e = .returned (.tuple #[v, .agg #[.int .i64 0, .int .i64 0]]) ∧ w'.ownsRow w.heap.size 36 4 v l.length (toksC l)
theorem infoT : (Tryz.prog.info? 36).map (fun i => (i.zero, i.size, i.bytes)) = some (some (.agg #[.int .u8 0, .string ⟨#[]⟩, .int .i64 0, .int .i64 0]), 4, 40) := by kernel_rfl
theorem blanks_call (s : ByteArray) (k : Nat) (w : World) : Calls Tryz.prog 15 #[.string (s.extract k s.size), .string ⟨#[32, 9, 13, 10]⟩] w fun e w' => ∃ x : ByteArray, e = .returned (.string x) ∧ x.data.toList = Plx.trimB (s.data.toList.drop k) ∧ Below w.heap.size w w' := by
  refine (Any.strings_TrimLeft_laid Tryz.lays161 info_set (s.extract k s.size) ⟨#[32, 9, 13, 10]⟩ w (by decide) (ascii_of_all (by decide))).mono fun e w' ⟨he, hb⟩ => ⟨_, he, ?_, hb⟩
  rw [Lib.extract_to_end]
  rfl
theorem own_set {w : World} {base n g i k : Nat} {e : TypeId} {v u : Value} {xs : List Value} (h : w.ownsRow base e k v n xs) (hg : g < base) : (w.setCell ⟨g, i, none⟩ u).ownsRow base e k v n xs :=
  h.kept (row := some g) ⟨rfl, rfl, rfl, by simp, fun j _ hne => Below.heap_setCell _ _ _ _ (fun e => hne (congrArg some e))⟩ (by
    cases hv : v.ownBlock with
    | none => exact .inl rfl
    | some b =>
      have := (h.lt b hv).1
      exact .inr (by simp only [ne_eq, Option.some.injEq]; omega))
theorem own_mono {w : World} {base base' n k : Nat} {e : TypeId} {v : Value} {xs : List Value} (h : w.ownsRow base e k v n xs) (hb : base' ≤ base) : w.ownsRow base' e k v n xs :=
  ⟨h.1, h.2.imp id fun ⟨g, cap, cur, hv, hg, rest⟩ => ⟨g, cap, cur, hv, Nat.le_trans hb hg, rest⟩⟩
theorem news_alloc2 (w : World) (o : Obj) (cs : Array Value) (t : TypeId) (fr : Nat × Nat) : ∀ j u, cs.toList[j]? = some u → ((w.alloc o).alloc (.cells cs t fr)).cell? ((⟨w.heap.size + 1, 0, none⟩ : Addr).add j) = some u :=
  World.news_of_block (B := w.heap.size + 1) (cs := cs) (t := t) (fr := fr) (by have := heap_alloc_new (w.alloc o) (.cells cs t fr); simpa using this)
/-- the world of Scan: the fault's block, and what has been laid since -/
def Base (w wx : World) : Prop := Below (w.heap.size + 1) (w.alloc (.cells #[.int .i64 0, .int .i64 0] 26)) wx
theorem Base.below {w wx : World} (h : Base w wx) : Below w.heap.size w wx := below_tok1 h
theorem Base.then_ {w w1 w2 : World} (h : Base w w1) (h' : Below w1.heap.size w1 w2) : Base w w2 := h.trans (h'.mono (by have := h.size; simpa using this))
theorem Base.alloc {w w1 : World} (h : Base w w1) (o : Obj) : Base w (w1.alloc o) := Below.alloc h (by have := h.size; simpa using this) o
theorem Base.lt {w w1 : World} (h : Base w w1) : w.heap.size + 1 ≤ w1.heap.size := by have := h.size; simpa using this
theorem base_cells {w w1 : World} (h : Base w w1) : w1.cell? ⟨w.heap.size, 0, none⟩ = some (.int .i64 0) ∧ w1.cell? ⟨w.heap.size, 1, none⟩ = some (.int .i64 0) ∧ w1.frozen? ⟨w.heap.size, 0, none⟩ = false ∧ w1.frozen? ⟨w.heap.size, 1, none⟩ = false := by
  obtain ⟨hc, hf⟩ := below1 h
  rw [hc _ _ (by omega), hc _ _ (by omega), hf _ _ (by omega), hf _ _ (by omega), World.cell?_alloc_new, World.cell?_alloc_new]
  exact ⟨rfl, rfl, by simp, by simp⟩
theorem Base.own {w w1 w2 : World} {v : Value} {n : Nat} {xs : List Value} (hown : w1.ownsRow (w.heap.size + 1) 36 4 v n xs) (h' : Below w1.heap.size w1 w2) : w2.ownsRow (w.heap.size + 1) 36 4 v n xs :=
  hown.kept (row := none) ⟨h'.os, h'.tape, h'.output, h'.size, fun j hj _ => h'.block j hj⟩ (by cases hv : v.ownBlock <;> simp)
theorem Scanned.err {w w' : World} {a b : Nat} (h : Below w.heap.size w w') : Scanned w (.error (a, b)) (.returned (.tuple #[.slice none 0 0, .agg #[.int .i64 a, .int .i64 b]])) w' := ⟨h, rfl⟩
theorem Scanned.ok {w w' : World} {l : List (Plx.Tok × Nat)} {v : Value} (h : Below w.heap.size w w') (hown : w'.ownsRow w.heap.size 36 4 v l.length (toksC l)) : Scanned w (.ok l) (.returned (.tuple #[v, .agg #[.int .i64 0, .int .i64 0]])) w' := ⟨h, v, rfl, hown⟩
theorem set2 {w w1 : World} (h : Below w.heap.size w w1) {a b : Value} : Below w.heap.size w ((w1.setCell ⟨w.heap.size, 0, none⟩ a).setCell ⟨w.heap.size, 1, none⟩ b) :=
  (h.setCell (by simp) _).setCell (by simp) _
set_option maxRecDepth 100000 in
set_option maxHeartbeats 4000000 in
theorem scan_any (s : ByteArray) (w : World) (hs0 : s.size ≤ 281474976710656) (ht : Env w) :
    Calls Tryz.prog 6 #[.string s] w (Scanned w (Plx.scanL s.data.toList)) := by
  have HT := Kept.mk ht
  clear ht
  generalize hR : Plx.scanL s.data.toList = R
  unfold Plx.scanL at hR
  rw [size_len] at hR
  by_cases hbig : 65536 < s.size
  · have hb1 : (65536 : Int) < (s.size : Int) := by omega
    rw [if_pos hbig] at hR
    have HR := Kept.mk hR
    clear hR
    go_enter Tryz.func6, Tryz.ntmps6
    go_wp2
    refine bodyPost_ret (v := .tuple #[.slice none 0 0, .agg #[.int .i64 (3 : Nat), .int .i64 (0 : Nat)]]) (by simp [results, Tryz.results6, go_sem]) rfl ?_
    rw [← HR.out]
    exact Scanned.err ((Below.refl _ _).alloc (Nat.le_refl _) _)
  have hb1 : ¬ (65536 : Int) < (s.size : Int) := by omega
  rw [if_neg hbig] at hR
  have cW := fun wx hx => wrong_any s wx hx
  rw [wrongI_eq] at cW
  cases hw : Plx.wrongR 0 (Pch.runes s.data.toList) with
  | some p =>
    rw [hw] at hR cW
    simp only [optI] at cW
    have HR := Kept.mk hR
    have CW := Kept.mk cW
    have i0 : (0 : Int) ≤ (p : Int) := by omega
    clear hR cW hw
    go_enter Tryz.func6, Tryz.ntmps6
    go_wp2_with (fail)
    refine (CW.out _ (HT.out.ch.below ((Below.refl _ _).alloc (Nat.le_refl _) _))).mono ?_; rintro e w1 ⟨rfl, g1⟩
    have G1 : Kept (Base w w1) := ⟨by have := g1; simp only [World.size_alloc] at this; exact this⟩
    obtain ⟨c0, c1, f0, f1⟩ := base_cells G1.out
    have hz := G1.out.lt
    go_wp2_with (fail)
    refine bodyPost_ret (v := .tuple #[.slice none 0 0, .agg #[.int .i64 (120 : Nat), .int .i64 p]]) (by simp [results, Tryz.results6, go_sem, c0, c1]) rfl ?_
    rw [← HR.out]
    exact Scanned.err (set2 (below_tok g1))
  | none =>
    rw [hw] at hR cW
    simp only [optI] at cW
    have HR := Kept.mk hR
    have CW := Kept.mk cW
    clear hR cW hw
    have HL := Kept.mk (size_len s)
    go_enter Tryz.func6, Tryz.ntmps6
    go_wp2_with (fail)
    refine (CW.out _ (HT.out.ch.below ((Below.refl _ _).alloc (Nat.le_refl _) _))).mono ?_; rintro e w1 ⟨rfl, g1⟩
    have G1 : Kept (Base w w1) := ⟨by have := g1; simp only [World.size_alloc] at this; exact this⟩
    clear g1
    go_wp2_with (fail)
    go_loopw [5, 6] (fun v i wx => ∃ (k f : Nat) (acc : List (Plx.Tok × Nat)), k ≤ s.size ∧ i = .int .i64 k ∧ Base w wx ∧ wx.ownsRow (w.heap.size + 1) 36 4 v acc.length (toksC acc) ∧ acc.length ≤ k ∧ s.size < f + k ∧ Hid (Plx.pre acc (Plx.scanG f k (s.data.toList.drop k)) = R)) (fun _ i _ => s.size - (intOf i).toNat)
    case atStart => exact ⟨0, s.size + 1, [], by omega, rfl, G1.out, World.ownsRow_nil _ _ _ _, by simp, by omega, by show _ = _; rw [Plx.pre_nil, List.drop_zero, ← HR.out]⟩
    case round =>
      obtain ⟨k, f, acc, hk, rfl, hB, hown, hal, hfu, H⟩ := hrel
      obtain ⟨f, rfl⟩ : ∃ g, f = g + 1 := ⟨f - 1, by omega⟩
      have h := H.out
      have HB := Kept.mk hB
      have HO := Kept.mk hown
      have i0 : (0 : Int) ≤ (k : Int) := by omega
      have i1 : (k : Int) ≤ (s.size : Int) := by omega
      have ht := Plx.trimB_le (s.data.toList.drop k)
      have hd := Plx.trimB_drop (s.data.toList.drop k)
      have hl : (s.data.toList.drop k).length = s.size - k := by rw [List.length_drop, HL.out]
      clear hB hown H
      go_wp2_with (fail)
      refine (blanks_call s k _).mono ?_; rintro e w2 ⟨x, rfl, hx, hb2⟩
      have G2 := Kept.mk (HB.out.then_ hb2)
      have O2 := Kept.mk (Base.own HO.out hb2)
      clear hb2
      have hxs : x.size = (Plx.trimB (s.data.toList.drop k)).length := by rw [← size_len, hx]
      obtain ⟨a, ha⟩ : ∃ a, a = s.size - x.size := ⟨_, rfl⟩
      have ha1 : k ≤ a ∧ a ≤ s.size ∧ (s.size : Int) - (x.size : Int) = (a : Int) := by omega
      have ha2 : k + ((s.data.toList.drop k).length - (Plx.trimB (s.data.toList.drop k)).length) = a := by omega
      have ha3 : Plx.trimB (s.data.toList.drop k) = s.data.toList.drop a := by
        rw [hd, List.drop_drop]
        congr 1
      obtain ⟨a1, a2, a3⟩ := ha1
      have HA := Kept.mk ha2
      have HD := Kept.mk ha3
      clear ht hd hl hx hxs ha ha2 ha3
      obtain ⟨i0', hi', hz0', hz1', hz2'⟩ := info_parts infoT
      have j0 : (0 : Int) ≤ (a : Int) := by omega
      have j1 : (a : Int) ≤ (s.size : Int) := by omega
      have z2 : w.heap.size + 1 ≤ w2.heap.size := by have := G2.out.size; simpa using this
      by_cases hend : a = s.size
      · have HX : Kept (R = .ok (acc ++ [((0, [], 0), a)])) := ⟨by
          rw [← h, Plx.scanG_end _ _ _ (by rw [HD.out, List.drop_eq_nil_of_le (by rw [HL.out]; omega)]), List.length_drop, HL.out, hend]
          simp only [Plx.pre]
          rw [show k + (s.size - k) = s.size by omega]⟩
        have e1 : ((a : Int) == (s.size : Int)) = true := by rw [beq_iff_eq]; omega
        clear h hend
        go_wp2_with (at_builtin; refine wpList_append_own _ rfl (.tmp 33) (.tmp 36) 23 rfl (w.heap.size + 1) 36 i0' (.agg #[.int .u8 0, .string ⟨#[]⟩, .int .i64 0, .int .i64 0]) 4 40 Tryz.underlying23 hi' hz0' hz1' hz2' rfl (by decide) _ acc.length (toksC acc) rfl (O2.out.alloc _) ⟨w2.heap.size, 0, none⟩ 1 1 (tokC ((0, [], 0), a)) rfl rfl (World.news_of_block (heap_alloc_new _ _)) (by intro u hu; simp [tokC] at hu; rcases hu with rfl | rfl | rfl | rfl <;> rfl) (by unfold maxLen; omega) (by omega) (by have := G2.out.size; simp at this ⊢; omega) ?_; intro v3 w3 hown3 hgrow3 _; have hB3 : Base w w3 := Below.grown (G2.out.alloc _) hgrow3 (by simp; omega) (fun _ hj => (O2.out.lt _ hj).1); obtain ⟨c0, c1, f0, f1⟩ := base_cells hB3; have hz := hB3.lt; have HB3 := Kept.mk hB3; have HO3 := Kept.mk hown3; clear hB3 hown3 hgrow3)
        refine bodyPost_ret (v := .tuple #[v3, .agg #[.int .i64 0, .int .i64 0]]) (by simp [results, Tryz.results6, go_sem, c0, c1]) rfl ?_
        rw [HX.out]
        have hO : w3.ownsRow (w.heap.size + 1) 36 4 v3 (acc ++ [((0, [], 0), a)]).length (toksC (acc ++ [((0, [], 0), a)])) := by
          rw [List.length_append, toksC_append]
          exact HO3.out
        exact Scanned.ok (set2 HB3.out.below) (own_mono (own_set (own_set hO (by omega)) (by omega)) (by omega))
      · have hlt : a < s.size := by omega
        have e1 : ((a : Int) == (s.size : Int)) = false := by simp; omega
        have hne : s.data.toList.drop a ≠ [] := by
          intro e
          have := congrArg List.length e
          rw [List.length_drop, HL.out] at this
          simp at this
          omega
        have hsz := size_from s a
        have cP := fun wx => prefix_call s a [40, 58] wx
        change ∀ wx, Calls _ _ _ wx fun e w' => e = .returned (.bool (Plx.isCom (s.data.toList.drop a))) ∧ wx = w' at cP
        cases hc0 : Plx.isCom (s.data.toList.drop a) with
        | true =>
          rw [Plx.scanG_com _ _ _ (by rw [HD.out]; exact hne) (by rw [HD.out]; exact hc0), HA.out, HD.out] at h
          rw [hc0] at cP
          have cC := fun wx => comment_any (s.extract a s.size) wx (by omega)
          rw [Lib.extract_to_end] at cC
          have CP := Kept.mk cP
          cases hcm : Plx.com 0 (s.data.toList.drop a) with
          | none =>
            rw [hcm] at h cC
            simp only [comI] at cC
            have HX : Kept (R = .error (220, a)) := ⟨h.symm⟩
            have CC := Kept.mk cC
            clear h cP cC hc0 hcm hend hne
            go_wp2_with (fail)
            refine (CP.out _).mono ?_; rintro e w' ⟨rfl, rfl⟩
            go_wp2_with (fail)
            refine (CC.out _).mono ?_; rintro e w' ⟨rfl, rfl⟩
            obtain ⟨c0, c1, f0, f1⟩ := base_cells G2.out
            have hz := G2.out.lt
            go_wp2
            refine bodyPost_ret (v := .tuple #[.slice none 0 0, .agg #[.int .i64 (220 : Nat), .int .i64 a]]) (by simp [results, Tryz.results6, go_sem, c0, c1]) rfl ?_
            rw [HX.out]
            exact Scanned.err (set2 G2.out.below)
          | some n =>
            rw [hcm] at h cC
            simp only [comI] at cC
            have hn := Plx.com_le _ _ _ hcm
            rw [List.length_drop, HL.out] at hn
            have e2 : ((n : Int) == 0) = false := by simp; omega
            dsimp only at h
            rw [List.drop_drop] at h
            have HX := Lib.hid h
            have CC := Kept.mk cC
            clear h cP cC hc0 hcm hend hne
            go_wp2_with (fail)
            refine (CP.out _).mono ?_; rintro e w' ⟨rfl, rfl⟩
            go_wp2_with (fail)
            refine (CC.out _).mono ?_; rintro e w' ⟨rfl, rfl⟩
            go_wp2
            go_roundw
            case rel => exact ⟨a + n, f, acc, by omega, by go_num, G2.out, O2.out, by omega, by omega, HX.out⟩
            case measure => simp [intOf]; omega
        | false =>
          rw [Plx.scanG_tok _ _ _ (by rw [HD.out]; exact hne) (by rw [HD.out]; exact hc0), HA.out, HD.out] at h
          rw [hc0] at cP
          have cC := fun wx hx => token_any (s.extract a s.size) wx (by omega) (by omega) hx
          rw [Lib.extract_to_end] at cC
          have CP := Kept.mk cP
          cases htk : Plx.tokL (s.data.toList.drop a) with
          | error er =>
            rw [htk] at h cC
            simp only [resV] at cC
            have her := Plx.tokL_err _ hne _ htk
            have e2 : ((er : Int) != 0) = true := by simp; omega
            have HX : Kept (R = .error (er, a)) := ⟨h.symm⟩
            have CC := Kept.mk cC
            clear h cP cC hc0 htk hend hne her
            go_wp2_with (fail)
            refine (CP.out _).mono ?_; rintro e w' ⟨rfl, rfl⟩
            go_wp2_with (fail)
            refine (CC.out _ (HT.out.below G2.out.below)).mono ?_; rintro e w3 ⟨rfl, hb3⟩
            have G3 := Kept.mk (G2.out.then_ hb3)
            have c0 := fun o => (base_cells (G3.out.alloc o)).1
            have c1 := fun o => (base_cells (G3.out.alloc o)).2.1
            have f0 := fun o => (base_cells (G3.out.alloc o)).2.2.1
            have f1 := fun o => (base_cells (G3.out.alloc o)).2.2.2
            have hz := G3.out.lt
            clear hb3
            go_wp2
            refine bodyPost_ret (v := .tuple #[.slice none 0 0, .agg #[.int .i64 er, .int .i64 a]]) (by simp [results, Tryz.results6, go_sem, c0, c1]) rfl ?_
            rw [HX.out]
            exact Scanned.err (set2 (G3.out.alloc _).below)
          | ok x =>
            rw [htk] at h cC
            simp only [resV] at cC
            have hxl := Plx.tokL_le _ _ htk
            rw [List.length_drop, HL.out] at hxl
            dsimp only at h
            rw [Plx.pre_pre, List.drop_drop] at h
            have HX := Lib.hid h
            have e2 : ((0 : Int) != 0) = false := rfl
            obtain ⟨y, hy⟩ : ∃ y : ByteArray, y = ⟨x.1.2.1.toArray⟩ := ⟨_, rfl⟩
            have hT : tokVal x.1 0 = .agg #[.int .u8 x.1.1, .string y, .int .i64 x.1.2.2, .int .i64 0] := by rw [hy]; rfl
            rw [hT] at cC
            have HY := Kept.mk hy
            have CC := Kept.mk cC
            obtain ⟨hx1, hx2, _⟩ := hxl
            generalize x.2 = m at CC hx1 hx2 HX
            clear h cP cC hc0 htk hend hne hy hT
            go_wp2_with (fail)
            refine (CP.out _).mono ?_; rintro e w' ⟨rfl, rfl⟩
            go_wp2_with (fail)
            refine (CC.out _ (HT.out.below G2.out.below)).mono ?_; rintro e w3 ⟨rfl, hb3⟩
            have G3 := Kept.mk (G2.out.then_ hb3)
            have O3 := Kept.mk (Base.own O2.out hb3)
            have hz := G3.out.lt
            clear hb3
            go_wp2_with (at_builtin; refine wpList_append_own _ rfl (.tmp 69) (.tmp 71) 23 rfl (w.heap.size + 1) 36 i0' (.agg #[.int .u8 0, .string ⟨#[]⟩, .int .i64 0, .int .i64 0]) 4 40 Tryz.underlying23 hi' hz0' hz1' hz2' rfl (by decide) _ acc.length (toksC acc) rfl ((O3.out.alloc _).alloc _) ⟨w3.heap.size + 1, 0, none⟩ 1 1 [.int .u8 x.1.1, .string y, .int .i64 x.1.2.2, .int .i64 a] rfl rfl (news_alloc2 _ _ _ _ _) (by intro u hu; simp at hu; rcases hu with rfl | rfl | rfl | rfl <;> rfl) (by unfold maxLen; omega) (by omega) (by simp; omega) ?_; intro v5 w5 hown5 hgrow5 _; have hB5 : Base w w5 := Below.grown ((G3.out.alloc _).alloc _) hgrow5 (by simp; omega) (fun _ hj => (O3.out.lt _ hj).1); have HB5 := Kept.mk hB5; have HO5 := Kept.mk hown5; clear hB5 hown5 hgrow5)
            go_roundw
            case rel =>
              refine ⟨a + m, f, acc ++ [(x.1, a)], by omega, by go_num, HB5.out, ?_, by rw [List.length_append, List.length_singleton]; omega, by omega, HX.out⟩
              rw [List.length_append, toksC_append]
              have := HO5.out
              rw [HY.out] at this
              exact this
            case measure => simp [intOf]; omega
end Go.Proofs.YtfamljigcffngaaGreatDoor.Wlx
