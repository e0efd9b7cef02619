/- The walk over ParseApart (chapter 07). -/
import Derived.Test.YtmdbjoebcolcfaaGreatDoorParseLs
import Derived.Test.YtmdbjoebcolcfaaGreatDoorFlatBagNodes
namespace Go.Proofs.YtmdbjoebcolcfaaGreatDoor.Wps
open Go Go.RowKit Go.Proofs.YtmdbjoebcolcfaaGreatDoor.Kb Go.Proofs.YtmdbjoebcolcfaaGreatDoor.Wch Go.Proofs.YtmdbjoebcolcfaaGreatDoor.Wtr Go.Proofs.YtmdbjoebcolcfaaGreatDoor.Flt

theorem far_of {w : World} {B n1 c1 n2 c2 k1 k2 : Nat} {A1 A2 : Option Addr} {e1 e2 : TypeId} {xs1 xs2 : List Value} (h1 : w.ownsRow B e1 k1 (.slice A1 n1 c1) n1 xs1) {w2 : World} (h2 : w2.ownsRow w.heap.size e2 k2 (.slice A2 n2 c2) n2 xs2) : Far (.slice A1 n1 c1) (.slice A2 n2 c2) := by
  unfold Far
  cases h : (Value.slice A1 n1 c1).ownBlock with
  | none => exact .inl rfl
  | some g =>
    refine .inr fun e => ?_
    have a1 := (h1.lt g h).2
    have a2 := (h2.lt g e.symm).1
    omega
theorem far_kept {u v : Value} (h : Far u v) : v.ownBlock = none ∨ v.ownBlock ≠ u.ownBlock := by
  unfold Far at h
  rcases h with h | h
  · cases hv : v.ownBlock with
    | none => exact .inl rfl
    | some g => exact .inr (by rw [h]; simp)
  · exact .inr (fun e => h e.symm)
/-- from node i on the cells are as they were -/
def FromN (L : List Ptr.Nd) (i : Nat) (xs : List Value) : Prop := ∀ (k : Nat) (x : Ptr.Nd) (m : Nat), i ≤ k → L[k]? = some x → m < 4 → xs[k * 4 + m]? = (ndC x)[m]?
theorem fromN_all (L : List Ptr.Nd) : FromN L 0 (ndsC L) := fun k x m _ hx hm => ndsC_get L k x m hx hm
theorem fromN_set {L : List Ptr.Nd} {i : Nat} {xs : List Value} (h : FromN L i xs) (u v : Value) : FromN L (i + 1) ((xs.set (i * 4 + 1) u).set (i * 4 + 2) v) := by
  intro k x m hk hx hm
  rw [List.getElem?_set_ne (by omega), List.getElem?_set_ne (by omega)]
  exact h k x m (by omega) hx hm
set_option maxRecDepth 100000 in
set_option maxHeartbeats 2000000 in
theorem turn_any (L : List Ptr.Nd) (A : Option Addr) (c n B : Nat) (w : World) (hn : L.length = n) (hl : n ≤ 1000000) (hx : ∀ x ∈ L, x.2.1.length + x.2.2.1.length ≤ 1000000) (ho : w.ownsRow B 39 4 (.slice A n c) n (ndsC L)) :
    Calls Tryz.prog 13 #[.slice A n c] w fun e w' => e = .returned (.tuple #[]) ∧ (∃ xs, w'.ownsRow B 39 4 (.slice A n c) n xs) ∧ w.grownBy w' (Value.slice A n c).ownBlock := by
  have HX := Kept.mk hx
  have HO := Kept.mk ho
  clear hx ho
  go_enter Tryz.func13, Tryz.ntmps13
  go_wp2
  go_loopg [2] n (fun g s2 wx => ∃ (i : Nat) (xs : List Value), s2 = .int .i64 (i : Int) ∧ i + g = n ∧ Kept (wx.ownsRow B 39 4 (.slice A n c) n xs) ∧ Kept (FromN L i xs) ∧ Kept (w.grownBy wx (Value.slice A n c).ownBlock))
  case atStart => exact ⟨0, _, rfl, by omega, HO, ⟨fromN_all L⟩, ⟨World.grownBy.refl _ _⟩⟩
  case round =>
    obtain ⟨i, xs, rfl, hi, O, F, G⟩ := hrel
    have i0 : (0 : Int) ≤ (i : Int) := by omega
    by_cases hlt : i < n
    · obtain ⟨g, rfl⟩ : ∃ g, gk = g + 1 := ⟨gk - 1, by omega⟩
      have i1 : (i : Int) < (n : Int) := by omega
      obtain ⟨b, hA, hcN, hbN⟩ := own_some O.out (by omega)
      subst hA
      obtain ⟨x, hx⟩ : ∃ x, L[i]? = some x := ⟨_, List.getElem?_eq_getElem (by omega)⟩
      have hlx := HX.out x (List.mem_of_getElem? hx)
      obtain ⟨kx, nx, vx, px⟩ := x
      dsimp only at hlx
      have hc := fun m u hm (hu : (ndC (kx, nx, vx, px))[m]? = some u) => own_at O.out (i * 4 + m) u (by rw [F.out i _ m (Nat.le_refl _) hx hm]; exact hu)
      have x1 : wr.cell? ⟨b, i * 4 + 1, none⟩ = some (.string ⟨nx.toArray⟩) := hc 1 _ (by omega) rfl
      have x2 := hc 2 _ (by omega) rfl
      have y1 : wr.frozen? ⟨b, i * 4 + 1, none⟩ = false := own_unfrozen O.out _
      have y2 := own_unfrozen O.out (i * 4 + 2)
      clear hc hx
      have s1 : (⟨nx.toArray⟩ : ByteArray).size + (⟨#[120]⟩ : ByteArray).size ≤ 9223372036854775807 := by rw [Lib.size_mk]; show nx.length + 1 ≤ _; omega
      have s2 : (⟨vx.toArray⟩ : ByteArray).size + (⟨#[120]⟩ : ByteArray).size ≤ 9223372036854775807 := by rw [Lib.size_mk]; show vx.length + 1 ≤ _; omega
      have a1 := fun W => run_string_add_sum (P := Tryz.prog) W ⟨nx.toArray⟩ ⟨#[120]⟩ s1
      have a2 := fun W => run_string_add_sum (P := Tryz.prog) W ⟨vx.toArray⟩ ⟨#[120]⟩ s2
      have O2 := Kept.mk (own_cell (own_cell O.out (i * 4 + 1) (.string (⟨nx.toArray⟩ ++ ⟨#[120]⟩))) (i * 4 + 2) (.string (⟨vx.toArray⟩ ++ ⟨#[120]⟩)))
      have F2 := Kept.mk (fromN_set F.out (.string (⟨nx.toArray⟩ ++ ⟨#[120]⟩)) (.string (⟨vx.toArray⟩ ++ ⟨#[120]⟩)))
      have G2 := Kept.mk (grown_set (grown_set G.out (i * 4 + 1) (.string (⟨nx.toArray⟩ ++ ⟨#[120]⟩))) (i * 4 + 2) (.string (⟨vx.toArray⟩ ++ ⟨#[120]⟩)))
      go_wp2
      go_roundg g
      case measure => omega
      case rel => exact ⟨i + 1, _, by go_num, by omega, O2, F2, G2⟩
    · have i1 : ¬ (i : Int) < (n : Int) := by omega
      go_wp2
      go_end0
      exact ⟨rfl, ⟨xs, O.out⟩, G.out⟩
theorem own_lower {w : World} {B B' n k : Nat} {e : TypeId} {v : Value} {xs : List Value} (h : w.ownsRow B e k v n xs) (hB : B' ≤ B) : w.ownsRow B' e k v n xs := own_mono h hB
set_option maxRecDepth 100000 in
set_option maxHeartbeats 4000000 in
theorem law_apart (s : ByteArray) (w : World) (he : Ev w) :
    Calls Tryz.prog 4 #[.string s] w fun e w' => e = .returned (.bool true) ∧ Below w.heap.size w w' := by
  have HT := Kept.mk he
  clear he
  by_cases hs : 6000 < s.size
  · have hs' : (6000 : Int) < (s.size : Int) := by omega
    go_enter Tryz.func4, Tryz.ntmps4
    go_wp2_with (fail)
    refine (awake_any _ HT.out).mono ?_; rintro e w1 ⟨rfl, hb1⟩
    go_wp2_with (fail)
    go_ret
    exact ⟨rfl, hb1⟩
  have hs' : ¬ (6000 : Int) < (s.size : Int) := by omega
  obtain ⟨L, x, y, hL⟩ : ∃ L x y, Ppa.documentL s.data.toList = (L, x, y) := ⟨_, _, _, rfl⟩
  obtain ⟨M, x', y', hM⟩ : ∃ L x y, Ppa.fragmentL s.data.toList = (L, x, y) := ⟨_, _, _, rfl⟩
  obtain ⟨n, hn⟩ : ∃ n, L.length = n := ⟨_, rfl⟩
  obtain ⟨m, hm⟩ : ∃ m, M.length = m := ⟨_, rfl⟩
  have l1 := Ppa.document_lens hL
  have l2 := Ppa.fragment_lens hM
  rw [size_len] at l1 l2
  have hnb : n ≤ 16384 := by omega
  have hmb : m ≤ 16384 := by omega
  have HLX : Kept (∀ x ∈ L, x.2.1.length + x.2.2.1.length ≤ 1000000) := ⟨fun x hx => by have := Ppa.lens_mem hx; omega⟩
  have CD : Kept (∀ wx, Ev wx → Calls Tryz.prog 7 #[.string s] wx fun e w' => Below wx.heap.size wx w' ∧ ∃ A c, e = .returned (.tuple #[.slice A n c, .agg #[.int .i64 x, .int .i64 y]]) ∧ w'.ownsRow wx.heap.size 39 4 (.slice A n c) n (ndsC L)) := ⟨fun wx hx => by
    have h := document_any s wx hx (by omega)
    rw [hL] at h
    subst hn
    exact h⟩
  have CF : Kept (∀ wx, Ev wx → Calls Tryz.prog 9 #[.string s] wx fun e w' => Below wx.heap.size wx w' ∧ ∃ A c, e = .returned (.tuple #[.slice A m c, .agg #[.int .i64 x', .int .i64 y']]) ∧ w'.ownsRow wx.heap.size 39 4 (.slice A m c) m (ndsC M)) := ⟨fun wx hx => by
    have h := fragment_any s wx hx (by omega)
    rw [hM] at h
    subst hm
    exact h⟩
  have CM : Kept (∀ (A1 A2 : Option Addr) (c1 c2 : Nat) (wx : World) (B1 B2 : Nat), wx.ownsRow B1 39 4 (.slice A1 n c1) n (ndsC L) → wx.ownsRow B2 39 4 (.slice A2 n c2) n (ndsC L) → Calls Tryz.prog 12 #[.slice A1 n c1, .slice A2 n c2] wx fun e w' => e = .returned (.bool true) ∧ Below wx.heap.size wx w') := ⟨fun A1 A2 c1 c2 wx B1 B2 h1 h2 => by
    subst hn
    exact same_rd L A1 A2 c1 c2 wx (rdn_of_own h1) (rdn_of_own h2) (by omega)⟩
  have CT : Kept (∀ (A1 : Option Addr) (c1 : Nat) (wx : World) (B1 : Nat), wx.ownsRow B1 39 4 (.slice A1 n c1) n (ndsC L) → Calls Tryz.prog 13 #[.slice A1 n c1] wx fun e w' => e = .returned (.tuple #[]) ∧ (∃ xs, w'.ownsRow B1 39 4 (.slice A1 n c1) n xs) ∧ wx.grownBy w' (Value.slice A1 n c1).ownBlock) := ⟨fun A1 c1 wx B1 h1 => turn_any L A1 c1 n B1 wx hn (by omega) HLX.out h1⟩
  clear hL hM l1 l2 hn hm HLX
  go_enter Tryz.func4, Tryz.ntmps4
  go_wp2_with (fail)
  refine (CD.out _ HT.out).mono ?_; rintro e w1 ⟨hb1, A1, c1, rfl, ho1⟩
  have D1 := (Below.refl w1.heap.size w1).alloc (Nat.le_refl _) (.cells #[.int .i64 x, .int .i64 y] 26)
  have B1 := Kept.mk (below_step hb1 D1)
  have O1 := Kept.mk (own_below ho1 D1)
  clear hb1 ho1 D1
  go_wp2_with (fail)
  refine (CD.out _ (HT.out.below B1.out)).mono ?_; rintro e w2 ⟨hb2, A2, c2, rfl, ho2⟩
  have F12 := Kept.mk (far_of O1.out ho2)
  have D2 := (Below.refl w2.heap.size w2).alloc (Nat.le_refl _) (.cells #[.int .i64 x, .int .i64 y] 26)
  have B2 := Kept.mk (below_step (below_step B1.out hb2) D2)
  have P1 := Kept.mk (own_below (own_below O1.out hb2) D2)
  have P2 := Kept.mk (own_below (own_lower ho2 B1.out.size) D2)
  clear hb2 ho2 D2 O1
  go_wp2_with (fail)
  refine (CF.out _ (HT.out.below B2.out)).mono ?_; rintro e w3 ⟨hb3, A3, c3, rfl, ho3⟩
  have F13 := Kept.mk (far_of P1.out ho3)
  have F23 := Kept.mk (far_of P2.out ho3)
  have D3 := (Below.refl w3.heap.size w3).alloc (Nat.le_refl _) (.cells #[.int .i64 x', .int .i64 y'] 26)
  have B3 := Kept.mk (below_step (below_step B2.out hb3) D3)
  have Q1 := Kept.mk (own_below (own_below P1.out hb3) D3)
  have Q2 := Kept.mk (own_below (own_below P2.out hb3) D3)
  have Q3 := Kept.mk (own_below (own_lower ho3 B2.out.size) D3)
  clear hb3 ho3 D3 P1 P2
  go_wp2_with (fail)
  refine (CM.out _ _ _ _ _ _ _ Q1.out Q2.out).mono ?_; rintro e w4 ⟨rfl, hb4⟩
  have B4 := Kept.mk (below_step B3.out hb4)
  have R1 := Kept.mk (own_below Q1.out hb4)
  have R2 := Kept.mk (own_below Q2.out hb4)
  have R3 := Kept.mk (own_below Q3.out hb4)
  clear hb4 Q1 Q2 Q3
  go_wp2_with (fail)
  refine (CT.out _ _ _ _ R1.out).mono ?_; rintro e w5 ⟨rfl, ⟨xs, ho5⟩, hg5⟩
  have B5 := Kept.mk (Below.grown B4.out hg5 B4.out.size (fun k hk => (R1.out.lt k hk).1))
  have S1 := Kept.mk ho5
  have S2 := Kept.mk (R2.out.kept hg5 (far_kept F12.out))
  have S3 := Kept.mk (R3.out.kept hg5 (far_kept F13.out))
  clear ho5 hg5 R1 R2 R3
  go_wp2_with (fail)
  refine (CD.out _ (HT.out.below B5.out)).mono ?_; rintro e w6 ⟨hb6, A4, c4, rfl, ho6⟩
  have F14 := Kept.mk (far_of S1.out ho6)
  have F24 := Kept.mk (far_of S2.out ho6)
  have F34 := Kept.mk (far_of S3.out ho6)
  have D6 := (Below.refl w6.heap.size w6).alloc (Nat.le_refl _) (.cells #[.int .i64 x, .int .i64 y] 26)
  have B6 := Kept.mk (below_step (below_step B5.out hb6) D6)
  have T1 := Kept.mk (own_below (own_below S1.out hb6) D6)
  have T2 := Kept.mk (own_below (own_below S2.out hb6) D6)
  have T3 := Kept.mk (own_below (own_below S3.out hb6) D6)
  have T4 := Kept.mk (own_below (own_lower ho6 B5.out.size) D6)
  clear hb6 ho6 D6 S1 S2 S3
  go_wp2_with (fail)
  refine (CM.out _ _ _ _ _ _ _ T2.out T4.out).mono ?_; rintro e w7 ⟨rfl, hb7⟩
  have D7 := (Below.refl w7.heap.size w7).alloc (Nat.le_refl _) (.cells #[.slice A1 n c1, .slice A2 n c2, .slice A3 m c3, .slice A4 n c4] 23)
  have B7 := Kept.mk (below_step (below_step B6.out hb7) D7)
  have U1 := Kept.mk (own_below (own_below T1.out hb7) D7)
  have U2 := Kept.mk (own_below (own_below T2.out hb7) D7)
  have U3 := Kept.mk (own_below (own_below T3.out hb7) D7)
  have U4 := Kept.mk (own_below (own_below T4.out hb7) D7)
  clear hb7 D7 T1 T2 T3 T4
  go_wp2_with (fail)
  have hA := Flt.apartNodesList_any w.heap.size 4 w7.heap.size 4 [.slice A1 n c1, .slice A2 n c2, .slice A3 m c3, .slice A4 n c4] (fun k => if k = 2 then m else n) (fun k => match k with | 0 => xs | 2 => ndsC M | _ => ndsC L) (w7.alloc (.cells #[.slice A1 n c1, .slice A2 n c2, .slice A3 m c3, .slice A4 n c4] 23)) (by omega) (by omega) rfl (fun k => by split <;> omega) B7.out.size
    (fun j v hv => by
      rw [World.cell?_alloc_new, ← Array.getElem?_toList]
      exact hv)
    (fun j v hv => by
      match j, hv with
      | 0, hv => cases hv; exact U1.out
      | 1, hv => cases hv; exact U2.out
      | 2, hv => cases hv; exact U3.out
      | 3, hv => cases hv; exact U4.out
      | j + 4, hv => simp at hv)
    (fun j k u v hjk hu hv => by
      match j, k, hu, hv, hjk with
      | 0, 0, _, _, h => exact absurd rfl h
      | 1, 1, _, _, h => exact absurd rfl h
      | 2, 2, _, _, h => exact absurd rfl h
      | 3, 3, _, _, h => exact absurd rfl h
      | 0, 1, hu, hv, _ => cases hu; cases hv; exact F12.out
      | 0, 2, hu, hv, _ => cases hu; cases hv; exact F13.out
      | 0, 3, hu, hv, _ => cases hu; cases hv; exact F14.out
      | 1, 2, hu, hv, _ => cases hu; cases hv; exact F23.out
      | 1, 3, hu, hv, _ => cases hu; cases hv; exact F24.out
      | 2, 3, hu, hv, _ => cases hu; cases hv; exact F34.out
      | 1, 0, hu, hv, _ => cases hu; cases hv; exact F12.out.symm
      | 2, 0, hu, hv, _ => cases hu; cases hv; exact F13.out.symm
      | 3, 0, hu, hv, _ => cases hu; cases hv; exact F14.out.symm
      | 2, 1, hu, hv, _ => cases hu; cases hv; exact F23.out.symm
      | 3, 1, hu, hv, _ => cases hu; cases hv; exact F24.out.symm
      | 3, 2, hu, hv, _ => cases hu; cases hv; exact F34.out.symm
      | 0, k + 4, _, hv, _ => simp at hv
      | 1, k + 4, _, hv, _ => simp at hv
      | 2, k + 4, _, hv, _ => simp at hv
      | 3, k + 4, _, hv, _ => simp at hv
      | j + 4, _, hu, _, _ => simp at hu)
  refine hA.mono ?_; rintro e w8 ⟨rfl, hb8⟩
  have B8 := Kept.mk (B7.out.trans hb8)
  clear hb8 hA
  go_wp2_with (fail)
  refine (awake_any _ (HT.out.below B8.out)).mono ?_; rintro e w9 ⟨rfl, hb9⟩
  have B9 := Kept.mk (below_step B8.out hb9)
  clear hb9
  go_wp2_with (fail)
  go_ret
  exact ⟨rfl, B9.out⟩
end Go.Proofs.YtmdbjoebcolcfaaGreatDoor.Wps
