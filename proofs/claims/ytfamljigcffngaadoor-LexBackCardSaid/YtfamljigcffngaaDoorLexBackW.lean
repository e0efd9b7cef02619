/- The walk over LexBack (chapter 22). -/
import Derived.Test.YtfamljigcffngaaDoorLexBackP
import Derived.Test.YtfamljigcffngaaDoorLexBackZ
import Derived.Test.YtfamljigcffngaaDoorLexOpen
import Derived.Lib.ItoaLen
import Derived.Deep.AppendLies
namespace Go.Proofs.YtfamljigcffngaaDoor.Wlx
open Go Go.RowKit Go.Proofs.YtfamljigcffngaaDoor.Wch

def PickR (w : World) (e : Ending) (w' : World) : Prop := ∃ p : Nat, p < 4 ∧ e = .returned (.int .i64 p) ∧ w = w'
theorem tmod4 (x : Int) : -4 < x.tmod 4 ∧ x.tmod 4 < 4 := ⟨Int.lt_tmod_of_pos x (by decide), Int.tmod_lt_of_pos x (by decide)⟩
set_option maxHeartbeats 1000000 in
theorem pick_any (x : Int) (w : World) : Calls Tryd.prog 9 #[.int .i64 x, .int .i64 4] w (PickR w) := by
  have hb := tmod4 x
  by_cases hn : x.tmod 4 < 0
  · go_enter Tryd.func9, Tryd.ntmps9
    go_wp2
    go_ret
    exact ⟨(x.tmod 4 + 4).toNat, by omega, ret_i64 (by rw [Int.toNat_of_nonneg (by omega)]), rfl⟩
  · go_enter Tryd.func9, Tryd.ntmps9
    go_wp2
    go_ret
    exact ⟨(x.tmod 4).toNat, by omega, ret_i64 (by rw [Int.toNat_of_nonneg (by omega)]), rfl⟩
theorem spell_len (t : Plx.Tok) (r : List UInt8) (h : Plx.spellL t = some r) (hl : t.2.1.length ≤ 100) (h0 : -9223372036854775808 ≤ t.2.2) (h1 : t.2.2 ≤ 9223372036854775807) : r.length ≤ 250 := by
  obtain ⟨k, x, n⟩ := t
  have hd := Plx.dbl_length x
  have hi := Lib.itoa_length_le n h0 h1
  dsimp only at hl
  unfold Plx.spellL at h
  dsimp only at h
  repeat' (split at h)
  all_goals first | (cases h; done) | skip
  all_goals (injection h with h; subst h; (try simp only [List.length_cons, List.length_nil, List.length_append]); dsimp only at *; omega)
/-- what the loop has gathered: tokens, their words, the gaps behind them -/
abbrev Gth := List (TZ × List UInt8 × List UInt8)
def gthW (L : Gth) : List (Plx.Tok × List UInt8 × List UInt8) := L.map fun x => (x.1.1, x.2.1, x.2.2)
def GthOk (L : Gth) : Prop := ∀ x ∈ L, Plx.Good x.1.1 x.2.1 ∧ Plx.Gap x.2.2
def Back (w : World) (k : Nat) (v : Value) (y : ByteArray) (wx : World) : Prop :=
  ∃ L : Gth, GthOk L ∧ L.length ≤ k ∧ wx.ownsRow w.heap.size 24 4 v L.length (toksZ (L.map (·.1))) ∧ y.data.toList = Plx.words (gthW L) ∧ y.size ≤ k * 400
theorem own_below {w1 w2 : World} {base n k : Nat} {e : TypeId} {v : Value} {xs : List Value} (hown : w1.ownsRow base e k v n xs) (h' : Below w1.heap.size w1 w2) : w2.ownsRow base e k v n xs :=
  hown.kept (row := none) ⟨h'.os, h'.tape, h'.output, h'.size, fun j hj _ => h'.block j hj⟩ (by cases hv : v.ownBlock <;> simp)
theorem Back.next {w w1 w2 : World} {k : Nat} {v : Value} {y : ByteArray} (h : Back w k v y w1) (hb : Below w1.heap.size w1 w2) : Back w (k + 1) v y w2 := by
  obtain ⟨L, h1, h2, h3, h4, h5⟩ := h
  exact ⟨L, h1, Nat.le_succ_of_le h2, own_below h3 hb, h4, Nat.le_trans h5 (Nat.mul_le_mul_right _ (Nat.le_succ k))⟩
theorem gthW_app (L M : Gth) : gthW (L ++ M) = gthW L ++ gthW M := by simp [gthW]
/-- one word more -/
theorem Back.more {w w2 : World} {k : Nat} {v2 : Value} {L : Gth} {y y2 : ByteArray} {x : TZ} {r : List UInt8} {p : Nat} (h1 : GthOk L) (h2 : L.length ≤ k) (h4 : y.data.toList = Plx.words (gthW L)) (h5 : y.size ≤ k * 400)
    (hg : Plx.Good x.1 r) (hr : r.length ≤ 250) (ho : w2.ownsRow w.heap.size 24 4 v2 (L.length + 1) (toksZ (L.map (·.1)) ++ tokZ x)) (hy : y2.data.toList = y.data.toList ++ (r ++ Plx.gapN p)) : Back w (k + 1) v2 y2 w2 := by
  refine ⟨L ++ [(x, r, Plx.gapN p)], ?_, by simp; omega, ?_, ?_, ?_⟩
  · intro z hz
    rcases List.mem_append.1 hz with hz | hz
    · exact h1 z hz
    · rcases List.mem_singleton.1 hz with rfl
      exact ⟨hg, Plx.gap_of p⟩
  · rw [List.length_append, List.map_append, toksZ_append]
    exact ho
  · rw [hy, h4, gthW_app, Plx.words_app]
    simp [gthW, Plx.words]
  · have e := congrArg List.length hy
    have hgl := Plx.gap_len p
    rw [size_len, List.length_append, List.length_append, size_len] at e
    omega
theorem data_mk (l : List UInt8) : (⟨l.toArray⟩ : ByteArray).data.toList = l := by simp
theorem wpList_wanted {P : Program} {ops : Array Oper} {Q : Exit → Act → World → Prop} {a : Act} {w : World} {rest : List Oper} {o : Oper} (hw : Region.wanted o (yielded ops a.tmps) = true)
    (h : ∀ K : Act → World → Prop, (∀ a w, wpList P ops Q rest a w → K a w) → o.wp P a w K Q) : wpList P ops Q (o :: rest) a w :=
  wpList_step fun K hK => by simp only [hw, if_true]; exact h K hK
/-- append as an operation under a guard that holds -/
theorem wpList_append_wanted {P : Program} {w : World} {ops : Array Oper} {rest : List Oper} {o : Oper} {a : Act} {Q : Exit → Act → World → Prop} (hw : Region.wanted o (yielded ops a.tmps) = true) (s x : Operand) (t : TypeId)
    (ho : o.op = .call { callee := .builtin .append, args := #[s, x], argTypes := #[t, t] })
    (base : Nat) (e : TypeId) (i : TypeInfo) (z : Value) (size bytes : Nat) (ht : P.underlying t = some (.slice e)) (hi : P.info? e = some i) (hz : i.zero = some z)
    (hsize : i.size = size) (hby : i.bytes = bytes) (hzs : z.cells.size = size) (hsz : 0 < size)
    (v : Value) (n : Nat) (xs : List Value) (hs : a.eval s = v) (hown : w.ownsRow base e size v n xs)
    (ad : Addr) (m c : Nat) (news : List Value) (hx : a.eval x = .slice (some ad) m c) (hl : news.length = m * size) (hnews : ∀ j u, news[j]? = some u → w.cell? (ad.add j) = some u) (h1 : ∀ u ∈ news, u.oneCell' = true)
    (hm : 0 < m) (h63 : n + m ≤ maxLen) (hbytes : (n + m) * bytes ≤ 140737488355328) (hbase : base ≤ w.heap.size) (H : Nat) (hH : w.heap.size = H)
    (h : ∀ g cap w', w'.ownsRow base e size (.slice (some ⟨g, 0, none⟩) (n + m) cap) (n + m) (xs ++ news) → w.grownBy w' v.ownBlock → (v.ownBlock = some g ∨ g = H) → g < w'.heap.size → wpList P ops Q rest (a.put o.dst (.slice (some ⟨g, 0, none⟩) (n + m) cap)) w') : wpList P ops Q (o :: rest) a w :=
  wpList_wanted hw fun _ hK => wp_append_lies w s x t ho base e i z size bytes ht hi hz hsize hby hzs hsz v n xs hs hown ad m c news hx hl hnews h1 hm h63 hbytes hbase H hH fun g cap w' h2 h3 h4 h5 => hK _ _ (h g cap w' h2 h3 h4 h5)
theorem rdt_lt {w : World} {g : Nat} {l : List (Plx.Tok × Nat)} (h : RdT w (some ⟨g, 0, none⟩) l) (hl : 0 < l.length) : g < w.heap.size := by
  obtain ⟨b, off, hA, hc⟩ := h (by intro e; subst e; simp at hl)
  cases hA
  exact Wch.cell_lt (hc 0 _ (List.getElem?_eq_getElem hl)).1
theorem rdt_grown {w w' : World} {g : Nat} {row : Option Nat} {l : List (Plx.Tok × Nat)} (h : RdT w (some ⟨g, 0, none⟩) l) (hg : w.grownBy w' row) (hlt : g < w.heap.size) (hne : ∀ b, row = some b → b ≠ g) : RdT w' (some ⟨g, 0, none⟩) l := by
  intro hl
  obtain ⟨b, off, hA, hc⟩ := h hl
  cases hA
  have hn : some g ≠ row := fun e => hne g e.symm rfl
  refine ⟨g, 0, rfl, fun j x hx => ?_⟩
  obtain ⟨c0, c1, c2, c3⟩ := hc j x hx
  exact ⟨by rw [hg.cell_far _ hlt hn]; exact c0, by rw [hg.cell_far _ hlt hn]; exact c1, by rw [hg.cell_far _ hlt hn]; exact c2, by rw [hg.cell_far _ hlt hn]; exact c3⟩
set_option maxRecDepth 100000 in
set_option maxHeartbeats 4000000 in
theorem law_back (A : Option Addr) (l : List TZ) (c : Nat) (gap : Int) (w : World) (ht : Env w) (hr : RdZ w A l) (hf : FitZ l) (hc : l.length ≤ c) :
    Calls Tryd.prog 4 #[.slice A l.length c, .int .i64 gap] w fun e w' => e = .returned (.bool true) ∧ Below w.heap.size w w' := by
  have HT := Kept.mk ht
  clear ht
  rcases (by omega : l.length ≤ 300 ∨ 300 < l.length) with hs | hs
  case' _ =>
    have hs' : ¬ (300 : Int) < (l.length : Int) := by omega
    obtain ⟨l', hl'⟩ : ∃ l', l' = l := ⟨_, rfl⟩
    have HR : Kept (RdZ w A l') := ⟨hl' ▸ hr⟩
    have HF : Kept (FitZ l') := ⟨hl' ▸ hf⟩
    generalize hN : l.length = N at *
    have HN : Kept (l'.length = N) := ⟨hl' ▸ hN⟩
    have hNs : N ≤ 300 := hs
    clear hl' hN hr hf
    go_enter Tryd.func4, Tryd.ntmps4
    go_wp2_with (fail)
    refine (awake_any _ HT.out).mono ?_; rintro e w1 ⟨rfl, hb1⟩
    have B1 := Kept.mk hb1
    clear hb1
    go_wp2_with (fail)
  rotate_left
  case' _ =>
    have hs' : (300 : Int) < (l.length : Int) := by omega
    have hc3 : (300 : Int) ≤ (c : Int) := by omega
    obtain ⟨l', hl'⟩ : ∃ l', l' = l.take 300 := ⟨_, rfl⟩
    have hN : l'.length = 300 := by rw [hl', List.length_take]; omega
    have HR : Kept (RdZ w A l') := ⟨by
      rw [hl']
      intro _
      obtain ⟨b, off, hA, hcl⟩ := hr (by intro e; subst e; simp at hs)
      refine ⟨b, off, hA, fun j x hx => hcl j x ?_⟩
      rw [List.getElem?_take] at hx
      split at hx
      · exact hx
      · cases hx⟩
    have HF : Kept (FitZ l') := ⟨fun x hx => hf x (List.mem_of_mem_take (hl' ▸ hx))⟩
    have HNN := Kept.mk hN
    clear hl' hN hr hf
    go_enter Tryd.func4, Tryd.ntmps4
    go_wp2_with (fail)
    refine (awake_any _ HT.out).mono ?_; rintro e w1 ⟨rfl, hb1⟩
    have B1 := Kept.mk hb1
    clear hb1
    go_wp2_with (fail)
    trace_state
    generalize hN : (300 : Nat) = N
    have HN : Kept (l'.length = N) := ⟨hN ▸ HNN.out⟩
    have hNs : N ≤ 300 := by omega
    clear hN HNN
  all_goals
    go_loopw [5, 6, 7] (fun v s i wx => ∃ (k : Nat) (y : ByteArray), k ≤ N ∧ i = .int .i64 k ∧ s = .string y ∧ Back w k v y wx ∧ Below w.heap.size w wx) (fun _ _ i _ => N - (intOf i).toNat)
    case atStart => exact ⟨0, ⟨#[]⟩, by omega, rfl, rfl, ⟨[], fun _ h => (by cases h), by simp, World.ownsRow_nil _ _ _ _, rfl, Nat.le_refl 0⟩, B1.out⟩
    case round =>
      obtain ⟨k, y, hk, rfl, rfl, hB, hw⟩ := hrel
      obtain ⟨i0', hi', hz0', hz1', hz2'⟩ := info_parts infoT
      by_cases hlt : k < N
      · obtain ⟨x, hx⟩ : ∃ x, l'[k]? = some x := ⟨_, List.getElem?_eq_getElem (by rw [HN.out]; exact hlt)⟩
        obtain ⟨b, off, rfl, hcl⟩ := (HR.out.below hw) (by intro e; have := HN.out; rw [e] at this; simp at this; omega)
        obtain ⟨c0, c1, c2, c3⟩ := hcl k x hx
        obtain ⟨f1, f2, f3, f4⟩ := HF.out x (List.mem_of_getElem? hx)
        obtain ⟨⟨kk, tx, nn⟩, aa⟩ := x
        dsimp only at c0 c1 c2 c3 f1 f2 f3 f4
        obtain ⟨yx, hyx⟩ : ∃ yx : ByteArray, yx = ⟨tx.toArray⟩ := ⟨_, rfl⟩
        rw [← hyx] at c1
        have hyd : yx.data.toList = tx := by rw [hyx]
        have HY := Kept.mk hyx
        have HYD := Kept.mk hyd
        have i0 : (0 : Int) ≤ (k : Int) := by omega
        have i1 : (k : Int) < (N : Int) := by omega
        have HB := Kept.mk hB
        have HW := Kept.mk hw
        clear hcl hx hyx hyd hB hw
        by_cases hlong : 100 < yx.size
        · have e1 : (100 : Int) < (yx.size : Int) := by omega
          go_wp2
          go_roundw
          case rel => exact ⟨k + 1, y, by omega, by go_num, rfl, HB.out.next (Below.refl _ _), HW.out⟩
          case measure => simp [intOf]; omega
        have e1 : ¬ (100 : Int) < (yx.size : Int) := by omega
        by_cases hk0 : kk = 0
        · have e2 : ((kk : Int) == 0) = true := by simp; omega
          go_wp2
          go_roundw
          case rel => exact ⟨k + 1, y, by omega, by go_num, rfl, HB.out.next (Below.refl _ _), HW.out⟩
          case measure => simp [intOf]; omega
        have e2 : ((kk : Int) == 0) = false := by simp; omega
        have cS := fun wx hx' => spell_any kk yx nn aa wx (by omega) hx' f1 f2
        rw [HYD.out] at cS
        cases hsp : Plx.spellL (kk, tx, nn) with
        | none =>
          rw [hsp] at cS
          simp only [spR] at cS
          have CS := Kept.mk cS
          clear hsp cS
          go_wp2_with (fail)
          refine (CS.out _ (HT.out.below HW.out)).mono ?_; rintro e w2 ⟨rfl, hb2⟩
          have HB2 := Kept.mk hb2
          clear hb2
          go_wp2
          go_roundw
          case rel => exact ⟨k + 1, y, by omega, by go_num, rfl, HB.out.next HB2.out, below_any HW.out HB2.out⟩
          case measure => simp [intOf]; omega
        | some r =>
          have hgood := Kept.mk (Plx.good_of_spell _ _ hsp hk0 f2)
          have hrl := Kept.mk (spell_len _ _ hsp (by dsimp only; rw [← HYD.out, size_len]; omega) f1 f2)
          rw [hsp] at cS
          simp only [spR] at cS
          obtain ⟨v, hv⟩ : ∃ v : ByteArray, v = ⟨r.toArray⟩ := ⟨_, rfl⟩
          rw [← hv] at cS
          have hvd : v.data.toList = r := by rw [hv]
          have z3 : v.size ≤ 250 := by rw [← size_len, hvd]; exact hrl.out
          have HV := Kept.mk hvd
          have CS := Kept.mk cS
          obtain ⟨L, h1, h2, h3, h4, h5⟩ := HB.out
          have G1 := Kept.mk h1
          have G4 := Kept.mk h4
          have z2 : y.size ≤ 120000 := by omega
          have O1 := Kept.mk h3
          clear hsp cS hv hvd h1 h3 h4 HB
          go_wp2_with (fail)
          refine (CS.out _ (HT.out.below HW.out)).mono ?_; rintro e w2 ⟨rfl, hb2⟩
          have B2 := Kept.mk (below_any HW.out hb2)
          have O2 := Kept.mk (own_below O1.out hb2)
          have d0 := cell_keep hb2 c0
          have d1 := cell_keep hb2 c1
          have d2 := cell_keep hb2 c2
          have d3 := cell_keep hb2 c3
          have hz2 := B2.out.size
          clear c0 c1 c2 c3 hb2 O1
          go_wp2_with (at_builtin; refine wpList_append_own _ rfl (.tmp 50) (.tmp 55) 29 rfl w.heap.size 24 i0' (.agg #[.int .u8 0, .string ⟨#[]⟩, .int .i64 0, .int .i64 0]) 4 40 Tryd.underlying29 hi' hz0' hz1' hz2' rfl (by decide) _ L.length (toksZ (L.map (·.1))) rfl (O2.out.alloc _) ⟨w2.heap.size, 0, none⟩ 1 1 [.int .u8 kk, .string yx, .int .i64 nn, .int .i64 aa] rfl rfl (World.news_of_block (heap_alloc_new _ _)) (by intro u hu; simp at hu; rcases hu with rfl | rfl | rfl | rfl <;> rfl) (by unfold maxLen; omega) (by omega) (by simp; omega) ?_; intro v5 w5 hown5 hgrow5 _; have hB5 : Below w.heap.size w w5 := Below.grown (B2.out.alloc B2.out.size _) hgrow5 (by simp; omega) (fun _ hj => (O2.out.lt _ hj).1); have HB5 := Kept.mk hB5; have HO5 := Kept.mk hown5; clear hB5 hown5 hgrow5)
          refine (pick_any _ _).mono ?_; rintro e w' ⟨p, hp, rfl, rfl⟩
          have HX : Kept (tokZ ((kk, tx, nn), aa) = [.int .u8 kk, .string yx, .int .i64 nn, .int .i64 aa]) := ⟨by rw [HY.out]; rfl⟩
          rcases (by omega : p = 0 ∨ p = 1 ∨ p = 2 ∨ p = 3) with rfl | rfl | rfl | rfl
          · go_wp2_with (fail)
            go_roundw
            case rel => exact ⟨k + 1, y ++ v ++ ⟨#[32]⟩, by omega, by go_num, rfl, Back.more (x := ((kk, tx, nn), aa)) (p := 0) G1.out h2 G4.out h5 hgood.out hrl.out (by rw [HX.out]; exact HO5.out.alloc _) (by rw [Joins.data_append, Joins.data_append, List.append_assoc, HV.out]; rfl), HB5.out.alloc HB5.out.size _⟩
            case measure => simp [intOf]; omega
          · go_wp2_with (fail)
            go_roundw
            case rel => exact ⟨k + 1, y ++ v ++ ⟨#[10]⟩, by omega, by go_num, rfl, Back.more (x := ((kk, tx, nn), aa)) (p := 1) G1.out h2 G4.out h5 hgood.out hrl.out (by rw [HX.out]; exact HO5.out.alloc _) (by rw [Joins.data_append, Joins.data_append, List.append_assoc, HV.out]; rfl), HB5.out.alloc HB5.out.size _⟩
            case measure => simp [intOf]; omega
          · go_wp2_with (fail)
            go_roundw
            case rel => exact ⟨k + 1, y ++ v ++ ⟨#[32, 40, 58, 32, 39, 32, 40, 58, 32, 120, 32, 58, 41, 32, 58, 41, 32]⟩, by omega, by go_num, rfl, Back.more (x := ((kk, tx, nn), aa)) (p := 2) G1.out h2 G4.out h5 hgood.out hrl.out (by rw [HX.out]; exact HO5.out.alloc _) (by rw [Joins.data_append, Joins.data_append, List.append_assoc, HV.out]; rfl), HB5.out.alloc HB5.out.size _⟩
            case measure => simp [intOf]; omega
          · go_wp2_with (fail)
            go_roundw
            case rel => exact ⟨k + 1, y ++ v ++ ⟨#[9, 32]⟩, by omega, by go_num, rfl, Back.more (x := ((kk, tx, nn), aa)) (p := 3) G1.out h2 G4.out h5 hgood.out hrl.out (by rw [HX.out]; exact HO5.out.alloc _) (by rw [Joins.data_append, Joins.data_append, List.append_assoc, HV.out]; rfl), HB5.out.alloc HB5.out.size _⟩
            case measure => simp [intOf]; omega
      · obtain rfl : k = N := by omega
        obtain ⟨L, h1, h2, h3, h4, h5⟩ := hB
        by_cases hbig : 65536 < y.size
        · have e1 : (65536 : Int) < (y.size : Int) := by omega
          clear h3
          go_wp2
          go_ret
          exact ⟨rfl, hw⟩
        have e1 : ¬ (65536 : Int) < (y.size : Int) := by omega
        obtain ⟨ts, hts, hmap⟩ := Plx.back_any (gthW L) (by
          intro x hx
          obtain ⟨z, hz, rfl⟩ := List.mem_map.1 hx
          exact h1 z hz) (by rw [← h4, size_len]; omega)
        rw [← h4] at hts
        obtain ⟨n1, hn1⟩ : ∃ n1, n1 = L.length + 1 := ⟨_, rfl⟩
        have hl1 : ts.length = n1 := by
          have := congrArg List.length hmap
          simp [gthW] at this
          omega
        have CS := Kept.mk (fun wx hx => scan_ok y ts wx (by omega) hx hts n1 hl1 (by omega))
        have HO := Kept.mk h3
        have HW := Kept.mk hw
        have HM : Kept ((L.map (·.1) ++ [((0, [], 0), 0)] : List TZ).map bareZ = (ts.map bareT).map fun x => (x.1, (x.2 : Int))) := ⟨by
          have e : (ts.map bareT).map (fun x => (x.1, (x.2 : Int))) = (ts.map (·.1)).map fun t => (t, (0 : Int)) := by simp [bareT, Function.comp_def]
          rw [e, hmap]
          simp [gthW, bareZ, Function.comp_def]⟩
        have HM2 : Kept ((ts.map fun x => (x.1, (x.2 : Int))).map bareZ = (ts.map bareT).map fun x => (x.1, (x.2 : Int))) := ⟨by simp [bareT, bareZ, Function.comp_def]⟩
        have HN1 := Kept.mk hn1
        have HL1 := Kept.mk hl1
        have i1 : n1 ≤ 301 := by omega
        have i2 : 0 < n1 := by omega
        have CB := Kept.mk (fun (g c' : Nat) wx hx => by
          have h := bareZ_any g 0 (ts.map fun x => (x.1, (x.2 : Int))) c' wx (rdz_of_t hx) (by simp; omega) (by simp; omega)
          rw [List.length_map, hl1] at h
          exact h)
        clear h1 h3 h4 hw hts hmap hn1 hl1
        go_wp2_with (fail)
        refine (CS.out _ (HT.out.below HW.out)).mono ?_; rintro e w2 ⟨g, c', rfl, hr2, hb2⟩
        have B2 := Kept.mk (below_any HW.out hb2)
        have O2 := Kept.mk (own_below HO.out hb2)
        have R2 := Kept.mk hr2
        clear hr2 hb2 CS
        have CZ := Kept.mk (fun (g c' : Nat) wx hx => by
          have h := bareZ_any g 0 (L.map (·.1) ++ [((0, [], 0), 0)] : List TZ) c' wx hx (by simp) (by simp; omega)
          rw [List.length_append, List.length_map, List.length_singleton, ← HN1.out] at h
          exact h)
        have CM := Kept.mk (fun A B (c d : Nat) wx ha hb => by
          have h := same_any A B (ts.map bareT) c d wx ha hb (by rw [List.length_map, HL1.out]; omega)
          rw [List.length_map, HL1.out] at h
          exact h)
        go_wp2_with (fail)
        have A4 : Kept (Below w2.heap.size w2 (w2.alloc (.cells #[.int .i64 0, .int .i64 0] 34))) := ⟨(Below.refl _ _).alloc (Nat.le_refl _) _⟩
        have W2 : ∀ b, b < w2.heap.size → b < (w2.alloc (.cells #[.int .i64 0, .int .i64 0] 34)).heap.size := fun b h => by simp; omega
        refine (CB.out _ _ _ (R2.out.below A4.out)).mono ?_; rintro e w3 ⟨g3, c3, rfl, hg3, hr3, hb3⟩
        have hfar : ∀ b, (Value.ownBlock u5) = some b → b ≠ g3 := fun b hb => by
          have h1 := W2 b (O2.out.lt b hb).2
          omega
        have HF3 := Kept.mk hfar
        have T3 := Kept.mk (rdt_of_z hr3 HM2.out)
        have O3 := Kept.mk (own_below (own_below O2.out A4.out) hb3)
        have B3 := Kept.mk (below_any (B2.out.alloc B2.out.size (.cells #[.int .i64 0, .int .i64 0] 34)) hb3)
        have hz3 := B3.out.size
        have hg3' : g3 < w3.heap.size := rdt_lt T3.out (by rw [List.length_map, HL1.out]; exact i2)
        clear hb3 hr3 hfar hg3 W2
        go_wp2_with (at_builtin; refine wpList_append_wanted (by rfl) (.tmp 82) (.tmp 84) 29 rfl w.heap.size 24 i0' (.agg #[.int .u8 0, .string ⟨#[]⟩, .int .i64 0, .int .i64 0]) 4 40 Tryd.underlying29 hi' hz0' hz1' hz2' rfl (by decide) u5 L.length (toksZ (L.map (·.1))) (by rfl) (O3.out.alloc _) ⟨w3.heap.size, 0, none⟩ 1 1 (tokZ ((0, [], 0), 0)) (by rfl) rfl (World.news_of_block (heap_alloc_new _ _)) (by intro u hu; simp [tokZ] at hu; rcases hu with rfl | rfl | rfl | rfl <;> rfl) (by decide) (by unfold maxLen; omega) (by omega) (by simp; omega) _ rfl ?_; intro g5 c5 w5 hown5 hgrow5 _ _; have hB5 : Below w.heap.size w w5 := Below.grown (B3.out.alloc B3.out.size _) hgrow5 (by simp; omega) (fun _ hj => (O3.out.lt _ hj).1); have hT5 := rdt_grown (T3.out.below ((Below.refl _ _).alloc (Nat.le_refl _) _)) hgrow5 (by simp; omega) HF3.out; rw [← HN1.out] at hown5 ⊢; have HB5 := Kept.mk hB5; have HO5 := Kept.mk hown5; have T5 := Kept.mk hT5; clear hB5 hown5 hgrow5 hT5)
        refine (CZ.out _ _ _ (rdz_of_own (by rw [toksZ_append]; exact HO5.out))).mono ?_; rintro e w7 ⟨g7, c7, rfl, _, hr7, hb7⟩
        have T7 := Kept.mk (rdt_of_z hr7 HM.out)
        have T6 := Kept.mk (T5.out.below hb7)
        have B7 := Kept.mk (below_any HB5.out hb7)
        clear hb7 hr7
        go_wp2_with (fail)
        refine (CM.out _ _ _ _ _ T6.out T7.out).mono ?_; rintro e w8 ⟨rfl, hb8⟩
        have B8 := Kept.mk (below_any B7.out hb8)
        clear hb8
        go_wp2_with (fail)
        go_ret
        exact ⟨rfl, B8.out⟩
end Go.Proofs.YtfamljigcffngaaDoor.Wlx
