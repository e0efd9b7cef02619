/- The walk over LexApart (chapter 22). -/
import Derived.Test.YtfamljigcffngaaGreatDoorFlatBagTokens
import Derived.Test.YtfamljigcffngaaGreatDoorLexSame
namespace Go.Proofs.YtfamljigcffngaaGreatDoor.Wlx
open Go Go.RowKit Go.Proofs.YtfamljigcffngaaGreatDoor.Wch

theorem scan_len : ∀ (f a : Nat) (l : List UInt8) (ts : List (Plx.Tok × Nat)), Plx.scanG f a l = .ok ts → ts.length ≤ l.length + 1
  | 0, _, _, _, h => by cases h
  | f + 1, a, l, ts, h => by
    have hle := Plx.trimB_le l
    unfold Plx.scanG at h
    split at h
    · cases h; simp
    · split at h
      · split at h
        · cases h
        · rename_i n hc
          have hb := Plx.com_le _ _ _ hc
          have := scan_len f _ _ ts h
          rw [List.length_drop] at this
          omega
      · split at h
        · cases h
        · rename_i x hx
          have hb := Plx.tokL_le _ _ hx
          split at h
          · cases h
          · rename_i ts' he
            cases h
            have := scan_len f _ _ _ he
            rw [List.length_drop] at this
            simp only [List.length_cons]
            omega
theorem scanL_okG {l : List UInt8} {ts : List (Plx.Tok × Nat)} (h : Plx.scanL l = .ok ts) : Plx.scanG (l.length + 1) 0 l = .ok ts := by
  unfold Plx.scanL at h
  split at h
  · cases h
  · split at h
    · cases h
    · exact h
/-- what Scan hands back, told alike whether the text is refused or not -/
theorem scan_own (s : ByteArray) (w : World) (hs : s.size ≤ 281474976710656) (ht : Env w) (l : List (Plx.Tok × Nat)) (hl : l = (match Plx.scanL s.data.toList with | .ok l => l | .error _ => [])) (n : Nat) (hn : l.length = n) :
    Calls Tryz.prog 6 #[.string s] w fun e w' => ∃ A c x y, e = .returned (.tuple #[.slice A n c, .agg #[.int .i64 x, .int .i64 y]]) ∧ w'.ownsRow w.heap.size 36 4 (.slice A n c) n (toksC l) ∧ Below w.heap.size w w' := by
  subst hn
  have h1 := scan_any s w hs ht
  cases h : Plx.scanL s.data.toList with
  | ok m =>
    rw [h] at h1 hl
    obtain rfl : l = m := hl
    refine h1.mono fun e w' hp => ?_
    obtain ⟨hb, v, he, hown⟩ := hp
    obtain ⟨A, c, rfl, _⟩ := Flt.own_slice hown
    exact ⟨A, c, _, _, he, hown, hb⟩
  | error x =>
    obtain ⟨a, b⟩ := x
    rw [h] at h1 hl
    obtain rfl : l = [] := hl
    refine h1.mono fun e w' hp => ?_
    exact ⟨none, 0, _, _, hp.2, World.ownsRow_nil _ _ _ _, hp.1⟩
theorem rdt_own {w : World} {base n c : Nat} {A : Option Addr} {l : List (Plx.Tok × Nat)} (h : w.ownsRow base 36 4 (.slice A n c) n (toksC l)) : RdT w A l := by
  intro hne
  have hl := h.1
  rw [toksC_length] at hl
  have hp := List.length_pos_iff.2 hne
  obtain ⟨g, c', e, _⟩ := Flt.own_block h (by omega)
  cases e
  exact rdt_of_own h hne
set_option maxRecDepth 100000 in
set_option maxHeartbeats 2000000 in
theorem law_apart (s : ByteArray) (w : World) (ht : Env w) :
    Calls Tryz.prog 3 #[.string s] w fun e w' => e = .returned (.bool true) ∧ Below w.heap.size w w' := by
  have HT := Kept.mk ht
  clear ht
  by_cases hs : 20000 < s.size
  · have hs' : (20000 : Int) < (s.size : Int) := by omega
    go_enter Tryz.func3, Tryz.ntmps3
    go_wp2_with (fail)
    refine (awake_any _ HT.out).mono ?_; rintro e w1 ⟨rfl, hb1⟩
    go_wp2_with (fail)
    go_ret
    exact ⟨rfl, hb1⟩
  have hs' : ¬ (20000 : Int) < (s.size : Int) := by omega
  obtain ⟨l, hl⟩ : ∃ l, l = (match Plx.scanL s.data.toList with | .ok l => l | .error _ => []) := ⟨_, rfl⟩
  obtain ⟨n, hn⟩ : ∃ n, l.length = n := ⟨_, rfl⟩
  have hln : n ≤ 20001 := by
    cases h : Plx.scanL s.data.toList with
    | ok m =>
      rw [h] at hl
      obtain rfl : l = m := hl
      have := scan_len _ _ _ _ (scanL_okG h)
      rw [size_len] at this
      omega
    | error x =>
      rw [h] at hl
      obtain rfl : l = [] := hl
      simp at hn
      omega
  have CS := Kept.mk (fun wx hx => scan_own s wx (by omega) hx l hl n hn)
  have CM := Kept.mk (fun A B (c d : Nat) wx ha hb => by
    have h := same_any A B l c d wx ha hb (by omega)
    rw [hn] at h
    exact h)
  clear hl hn
  go_enter Tryz.func3, Tryz.ntmps3
  go_wp2_with (fail)
  refine (CS.out _ HT.out).mono ?_; rintro e w1 ⟨A1, c1, x1, y1, rfl, ho1, hb1⟩
  have O1 := Kept.mk ho1
  have B1 := Kept.mk hb1
  clear ho1 hb1
  go_wp2_with (fail)
  have B1a := Kept.mk (B1.out.alloc B1.out.size (.cells #[.int .i64 x1, .int .i64 y1] 26))
  have O1a := Kept.mk (O1.out.alloc (.cells #[.int .i64 x1, .int .i64 y1] 26))
  have hz1 := B1a.out.size
  refine (CS.out _ (HT.out.below B1a.out)).mono ?_; rintro e w2 ⟨A2, c2, x2, y2, rfl, ho2, hb2⟩
  have hfar : Flt.Far (.slice A1 n c1) (.slice A2 n c2) := by
    unfold Flt.Far
    cases h : (Value.slice A1 n c1).ownBlock with
    | none => exact .inl rfl
    | some g =>
      refine .inr fun e => ?_
      have h1 := (O1a.out.lt g h).2
      have h2 := (ho2.lt g e.symm).1
      omega
  have FR := Kept.mk hfar
  have O2 := Kept.mk (Flt.own_low ho2 B1a.out.size)
  have O1b := Kept.mk (Flt.own_below O1a.out hb2)
  have B2 := Kept.mk (below_any B1a.out hb2)
  clear ho2 hb2 hfar
  go_wp2_with (fail)
  have A3 : Kept (Below w2.heap.size w2 (w2.alloc (.cells #[.int .i64 x2, .int .i64 y2] 26))) := ⟨(Below.refl _ _).alloc (Nat.le_refl _) _⟩
  have O2b := Kept.mk (Flt.own_below O2.out A3.out)
  have O1c := Kept.mk (Flt.own_below O1b.out A3.out)
  have B3 := Kept.mk (below_any B2.out A3.out)
  refine (CM.out _ _ _ _ _ (rdt_own O1c.out) (rdt_own O2b.out)).mono ?_; rintro e w3 ⟨rfl, hb3⟩
  have O2c := Kept.mk (Flt.own_below O2b.out hb3)
  have O1d := Kept.mk (Flt.own_below O1c.out hb3)
  have B4 := Kept.mk (below_any B3.out hb3)
  clear hb3
  go_wp2_with (fail)
  have A5 : Kept (Below w3.heap.size w3 (w3.alloc (.cells #[.slice A1 n c1, .slice A2 n c2] 23))) := ⟨(Below.refl _ _).alloc (Nat.le_refl _) _⟩
  have B5 := Kept.mk (below_any B4.out A5.out)
  have hA := Flt.apartToks_any w.heap.size 2 w3.heap.size 2 [.slice A1 n c1, .slice A2 n c2] (fun _ => n) (fun _ => toksC l) (w3.alloc (.cells #[.slice A1 n c1, .slice A2 n c2] 23)) (by omega) (by omega) rfl (fun _ => by omega) B5.out.size
    (fun j v hv => by
      rw [World.cell?_alloc_new, ← Array.getElem?_toList]
      exact hv)
    (fun j v hv => by
      match j, hv with
      | 0, hv => cases hv; exact Flt.own_below O1d.out A5.out
      | 1, hv => cases hv; exact Flt.own_below O2c.out A5.out
      | j + 2, hv => simp at hv)
    (fun j k u v hjk hu hv => by
      match j, k, hu, hv, hjk with
      | 0, 0, _, _, h => exact absurd rfl h
      | 0, 1, hu, hv, _ => cases hu; cases hv; exact FR.out
      | 1, 0, hu, hv, _ => cases hu; cases hv; exact FR.out.symm
      | 1, 1, _, _, h => exact absurd rfl h
      | 0, k + 2, _, hv, _ => simp at hv
      | 1, k + 2, _, hv, _ => simp at hv
      | j + 2, _, hu, _, _ => simp at hu)
  refine hA.mono ?_; rintro e w4 ⟨rfl, hb4⟩
  have B6 := Kept.mk (B5.out.trans hb4)
  clear hb4 hA
  go_wp2_with (fail)
  refine (awake_any _ (HT.out.below B6.out)).mono ?_; rintro e w5 ⟨rfl, hb5⟩
  have B7 := Kept.mk (below_any B6.out hb5)
  clear hb5
  go_wp2_with (fail)
  go_ret
  exact ⟨rfl, B7.out⟩
end Go.Proofs.YtfamljigcffngaaGreatDoor.Wlx
