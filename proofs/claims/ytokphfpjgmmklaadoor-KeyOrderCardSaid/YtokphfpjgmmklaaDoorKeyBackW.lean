/- The walk over KeyBack. -/
import Derived.Test.YtokphfpjgmmklaaDoorKeyBackP
import Derived.Test.YtokphfpjgmmklaaDoorKeyLaws
import Derived.Laws.AppendOwnNone
import Derived.Deep.RegionHeld3
namespace Go.Proofs.YtokphfpjgmmklaaDoor.Wk
open Go Go.RowKit Go.Proofs.YtokphfpjgmmklaaDoor.Kb

set_option maxRecDepth 100000 in
/-- append(own, more...), more any slice of bytes that can be read -/
theorem wpList_append_rd {ops : Array Oper} {rest : List Oper} {o : Oper} {a : Act} {Q : Exit → Act → World → Prop} {w : World} (hgd : o.guard = none) (s x : Operand)
    (ho : o.op = .call { callee := .builtin .append, args := #[s, x], argTypes := #[22, 22] }) (base : Nat) (v : Value) (l m : List UInt8) (hs : a.eval s = v)
    (hown : w.ownsRow base 5 1 v l.length (bc l)) (A : Option Addr) (c : Nat) (hx : a.eval x = .slice A m.length c) (hr : Rd w A m) (hc : A = none → c = 0)
    (hsz : l.length + m.length ≤ 140737488355328) (hbase : base ≤ w.heap.size)
    (h : ∀ v' w', w'.ownsRow base 5 1 v' (l ++ m).length (bc (l ++ m)) → w.grownBy w' v.ownBlock → wpList Tryd.prog ops Q rest (a.put o.dst v') w') : wpList Tryd.prog ops Q (o :: rest) a w := by
  obtain ⟨i0, hi, hz0, hz1, hz2⟩ := info_parts infoB
  cases A with
  | none =>
    have hm : m = [] := by
      apply Classical.byContradiction
      intro hne
      obtain ⟨b, off, hA, _⟩ := hr hne
      cases hA
    subst hm
    rw [hc rfl] at hx
    exact wpList_append_own_none hgd s x _ ho base _ i0 1 Tryd.underlying22 hi v _ _ hs hown hx (h v w (by rw [List.append_nil]; exact hown) (World.grownBy.refl _ _))
  | some ad =>
    have c2 : ∀ j u, (bc m)[j]? = some u → w.cell? (ad.add j) = some u := by
      intro j u hu
      obtain ⟨y, hy, rfl⟩ : ∃ y, m[j]? = some y ∧ Value.int .u8 (y.toNat : Int) = u := by
        simp only [bc, List.getElem?_map, Option.map_eq_some_iff] at hu
        exact hu
      obtain ⟨b, off, hA, hcell⟩ := hr (by intro e; subst e; simp at hy)
      injection hA with hA
      subst hA
      rw [add_lit]
      exact hcell j y hy
    refine wpList_append_own _ hgd s x _ ho base _ i0 (.int .u8 0) 1 1 Tryd.underlying22 hi hz0 hz1 hz2 rfl (by decide) v _ _ hs hown ad m.length c (bc m) hx (by simp [bc_length]) c2 (bc_oneCell m) (by unfold maxLen; omega) (by omega) hbase ?_
    intro v' w' ho' hg _
    exact h v' w' (by rw [List.length_append, bc_append]; exact ho') hg
theorem below_grew' {w wr w1 : World} {v : Value} {n : Nat} {xs : List Value} (hb : Below w.heap.size w wr) (hown : wr.ownsRow w.heap.size 5 1 v n xs) (hg : wr.grownBy w1 v.ownBlock) : Below w.heap.size w w1 :=
  Below.grown hb hg hb.size (fun _ hj => (hown.lt _ hj).1)
set_option maxRecDepth 100000 in
theorem copy_any (A : Option Addr) (l : List UInt8) (c : Nat) (w : World) (hr : Rd w A l) (hc : A = none → c = 0) (hl : l.length ≤ 1000000) :
    Calls Tryd.prog 26 #[.slice A l.length c] w (Made w l) := by
  have HR := Kept.mk hr
  have HC := Kept.mk hc
  have hown : w.ownsRow w.heap.size 5 1 (.slice none 0 0) 0 [] := World.ownsRow_nil _ _ _ _
  have HO := Kept.mk hown
  clear hr hc hown
  go_enter Tryd.func26, Tryd.ntmps26
  go_wp2_with (at_builtin; refine wpList_append_rd rfl _ _ rfl w.heap.size _ [] l rfl HO.out A c rfl HR.out HC.out (by simp; omega) (Nat.le_refl _) ?_; intro v' w1 hown' hg)
  go_ret
  exact ⟨v', rfl, hown', below_grew' (Below.refl _ _) HO.out hg⟩
theorem slice_own {w w' : World} {v : Value} {l : List UInt8} {n : Nat} (h : w'.ownsRow w.heap.size 5 1 v n (bc l)) : ∃ A c, v = .slice A n c ∧ Rd w' A l := by
  obtain ⟨A, c, rfl, _⟩ := own_shape h
  exact ⟨A, c, rfl, rd_of_own h⟩
/-- what GetBytes says of bytes that may be none -/
def Fine (m : List UInt8) (x : List UInt8) (k : Nat) (z : Bool) : Prop := x.length ≤ m.length ∧ k ≤ m.length ∧ (z = true → Pk.putL x = m.take k) ∧ (z = false → x.length = 0 ∧ k = 0)
theorem fine_of (m : List UInt8) : Fine m (((Pk.getL m).map (·.1)).getD []) (((Pk.getL m).map (·.2)).getD 0) (Pk.getL m).isSome := by
  cases hg : Pk.getL m with
  | none => exact ⟨by simp, by simp, fun e => (by cases e), fun _ => ⟨rfl, rfl⟩⟩
  | some x =>
    have h1 := Pk.getL_len m.length m (Nat.le_refl _) x hg
    have h2 := Pk.put_get m.length m (Nat.le_refl _) x hg
    exact ⟨h1.1, h1.2, fun _ => h2.2, fun e => by cases e⟩
theorem take_rd {w : World} {A : Option Addr} {m : List UInt8} (h : Rd w A m) (k : Nat) : Rd w A (m.take k) := by
  intro hne
  obtain ⟨b, off, hA, hc⟩ := h (by intro e; subst e; simp at hne)
  refine ⟨b, off, hA, fun j x hx => hc j x ?_⟩
  rw [List.getElem?_take] at hx
  split at hx
  · exact hx
  · cases hx
theorem below_step {w w1 w2 : World} (h : Below w.heap.size w w1) (h' : Below w1.heap.size w1 w2) : Below w.heap.size w w2 := h.trans (h'.mono h.size)
theorem below_draw {w w1 : World} (h : Below w.heap.size w w1) : Below w.heap.size w w1.drew := h.trans ⟨rfl, rfl, rfl, Nat.le_refl _, fun _ _ => rfl⟩
theorem rd_some {w : World} {A : Option Addr} {l : List UInt8} (h : Rd w A l) (hne : l ≠ []) : A ≠ none := by
  obtain ⟨b, off, rfl, _⟩ := h hne
  simp
set_option maxRecDepth 100000 in
set_option maxHeartbeats 1000000 in
theorem law_back (A : Option Addr) (a : List UInt8) (c : Nat) (A' : Option Addr) (m : List UInt8) (c' : Nat) (n : Int) (w : World) (ht : Env w) (hr : Rd w A a) (hr' : Rd w A' m) (hc' : A' = none → c' = 0)
    (hl : a.length ≤ 140737488355328) (hl' : m.length ≤ 140737488355328) (hm : m.length ≤ c') (h0 : -9223372036854775808 ≤ n) (h1 : n ≤ 9223372036854775807) :
    Calls Tryd.prog 8 #[.slice A a.length c, .slice A' m.length c', .int .i64 n] w fun e w' => e = .returned (.bool true) ∧ Below w.heap.size w w' := by
  have HT := Kept.mk ht
  have HR := Kept.mk hr
  have HR' := Kept.mk hr'
  have HC' := Kept.mk hc'
  clear ht hr hr' hc'
  by_cases hbig : 20000 < a.length + m.length
  · go_enter Tryd.func8, Tryd.ntmps8
    go_wp2_with (fail)
    refine (awake_any w HT.out).mono ?_; rintro e w1 ⟨rfl, hb1⟩
    go_wp2_with (fail)
    all_goals (go_ret; exact ⟨rfl, hb1⟩)
  have hpl := Pk.putL_length a
  have hpn : Pk.putL a ≠ [] := by simp [Pk.putL]
  have hg := Pk.get_putL a m
  have hgi := Pk.get_i n m h0 h1
  have CP : Kept (∀ wx A c, Rd wx A (Pk.putL a) → Calls Tryd.prog 26 #[.slice A (Pk.putL a).length c] wx (Made wx (Pk.putL a))) := ⟨fun wx A c hx => copy_any A _ c wx hx (fun e => absurd e (rd_some hx hpn)) (by omega)⟩
  have CI : Kept (∀ wx A c, Rd wx A (Pk.putInt n) → Calls Tryd.prog 26 #[.slice A 8 c] wx (Made wx (Pk.putInt n))) := ⟨fun wx A c hx => copy_any A (Pk.putInt n) c wx hx (fun e => absurd e (rd_some hx (by intro e; cases e))) (by have : (Pk.putInt n).length = 8 := rfl; omega)⟩
  have PA : Kept (∀ wx, Rd wx A a → Calls Tryd.prog 18 #[.slice A a.length c] wx (Slice wx (Pk.putL a))) := ⟨fun wx hx => (putBytes_any A a c wx hx (by omega)).mono fun _ _ h => slice_of_made h⟩
  have GA : Kept (∀ wx B c N, N = (Pk.putL a ++ m).length → Rd wx B (Pk.putL a ++ m) → Calls Tryd.prog 16 #[.slice B N c] wx fun e w' => ∃ B' c', e = .returned (.tuple #[.slice B' a.length c', .int .i64 ((Pk.putL a).length : Nat), .bool true]) ∧ Rd w' B' a ∧ Below wx.heap.size wx w') := ⟨fun wx B c N hN hx => by
    subst hN
    refine (getBytes_any B _ c wx hx (by rw [List.length_append]; omega)).mono fun e w' h => ?_
    have h := got_shape h
    rw [hg] at h
    exact h⟩
  have GI : Kept (∀ wx B c N, N = (Pk.putInt n ++ m).length → Rd wx B (Pk.putInt n ++ m) → Calls Tryd.prog 11 #[.slice B N c] wx fun e w' => e = .returned (.tuple #[.int .i64 n, .int .i64 8, .bool true]) ∧ Below wx.heap.size wx w') := ⟨fun wx B c N hN hx => by
    subst hN
    have h := getInt_any B _ c wx hx (by rw [List.length_append]; have : (Pk.putInt n).length = 8 := rfl; omega)
    rw [hgi, decide_eq_true (by rw [List.length_append]; have : (Pk.putInt n).length = 8 := rfl; omega)] at h
    exact h⟩
  have gM : ∀ wx, Rd wx A' m → Calls Tryd.prog 16 #[.slice A' m.length c'] wx (Got' wx (Pk.getL m)) := fun wx hx => (getBytes_any A' m c' wx hx (by omega)).mono fun _ _ h => got_shape h
  have hf := fine_of m
  unfold Got' at gM
  generalize ((Pk.getL m).map (·.1)).getD [] = y at gM hf
  generalize ((Pk.getL m).map (·.2)).getD 0 = k at gM hf
  generalize (Pk.getL m).isSome = z at gM hf
  obtain ⟨hf1, hf2, hf3, hf4⟩ := hf
  have GM := Kept.mk gM
  have F3 := Kept.mk hf3
  have F4 := Kept.mk hf4
  have PY : Kept (∀ wx B c, Rd wx B y → Calls Tryd.prog 18 #[.slice B y.length c] wx (Slice wx (Pk.putL y))) := ⟨fun wx B c hx => (putBytes_any B y c wx hx (by omega)).mono fun _ _ h => slice_of_made h⟩
  clear gM hf3 hf4 hg hgi hpn
  generalize Pk.putL a = p at *
  go_enter Tryd.func8, Tryd.ntmps8
  go_wp2_with (fail)
  refine (awake_any w HT.out).mono ?_; rintro e w1 ⟨rfl, g1⟩
  go_wp2_with (fail)
  refine (PA.out _ (HR.out.below g1)).mono ?_; rintro e w2 ⟨A2, c2, rfl, hr2, hb2⟩
  have R2 := Kept.mk hr2
  have g2 := g1.trans (hb2.mono g1.size)
  clear hb2 g1 hr2
  go_wp2_with (fail)
  refine (CP.out _ _ _ R2.out).mono ?_; rintro e w3 ⟨v3, rfl, hown3, hb3⟩
  have O3 := Kept.mk hown3
  have g3 := g2.trans (hb3.mono g2.size)
  have HB3 := Kept.mk hb3
  clear hb3 hown3
  go_wp2_with (at_builtin; refine wpList_append_rd rfl _ _ rfl w2.heap.size _ p m rfl O3.out A' c' rfl (HR'.out.below g3) HC'.out (by omega) HB3.out.size ?_; intro v4 w4 hown4 hg4; obtain ⟨A4, c4, rfl, hr4⟩ := slice_own hown4)
  have R4 := Kept.mk hr4
  have hb4 := below_grew' HB3.out O3.out hg4
  have g4 := g2.trans (hb4.mono g2.size)
  clear hg4 hown4 hb4 hr4 HB3 O3 g2 g3
  refine (GA.out w4 A4 c4 (p.length + m.length) (by rw [List.length_append]) R4.out).mono ?_; rintro e w5 ⟨A5, c5, rfl, hr5, hb5⟩
  have R5 := Kept.mk hr5
  have g5 := g4.trans (hb5.mono g4.size)
  clear hr5 hb5 g4
  go_wp2_with (fail)
  refine (same_yes A5 A a a.length c5 c _ R5.out (HR.out.below g5) rfl (by omega)).mono ?_; rintro e w6 ⟨rfl, hb6⟩
  have g6 := g5.trans (hb6.mono g5.size)
  clear hb6 g5
  go_wp2_with (fail)
  refine (putInt_slice n _ h0 h1).mono ?_; rintro e w7 ⟨A7, c7, rfl, hr7, hb7⟩
  have R7 := Kept.mk hr7
  have g7 := g6.trans (hb7.mono g6.size)
  clear hb7 g6 hr7
  go_wp2_with (fail)
  refine (CI.out _ _ _ R7.out).mono ?_; rintro e w8 ⟨v8, rfl, hown8, hb8⟩
  have O8 := Kept.mk hown8
  have HB8 := Kept.mk hb8
  have g8 := g7.trans (hb8.mono g7.size)
  clear hown8 hb8
  go_wp2_with (at_builtin; refine wpList_append_rd rfl _ _ rfl w7.heap.size _ (Pk.putInt n) m rfl O8.out A' c' rfl (HR'.out.below g8) HC'.out (by have : (Pk.putInt n).length = 8 := rfl; omega) HB8.out.size ?_; intro v9 w9 hown9 hg9; obtain ⟨A9, c9, rfl, hr9⟩ := slice_own hown9)
  have R9 := Kept.mk hr9
  have hb9 := below_grew' HB8.out O8.out hg9
  have g9 := g7.trans (hb9.mono g7.size)
  clear hg9 hown9 hb9 hr9 HB8 O8 g7 g8
  refine (GI.out w9 A9 c9 ((Pk.putInt n).length + m.length) (by rw [List.length_append]) R9.out).mono ?_; rintro e w10 ⟨rfl, hb10⟩
  have g10 := g9.trans (hb10.mono g9.size)
  clear hb10 g9
  go_wp2_with (fail)
  refine (GM.out _ (HR'.out.below g10)).mono ?_; rintro e w11 ⟨A11, c11, rfl, hr11, hb11⟩
  have R11 := Kept.mk hr11
  have g11 := g10.trans (hb11.mono g10.size)
  clear hb11 g10 hr11
  cases z with
  | false =>
    obtain ⟨hy0, hk0⟩ := F4.out rfl
    rw [hy0, hk0]
    clear hy0 hk0
    go_wp2_with (fail)
    go_ret
    exact ⟨rfl, g11⟩
  | true =>
    have he := F3.out rfl
    have hlen : (Pk.putL y).length = k := by rw [he, List.length_take]; omega
    have PK : Kept (∀ wx B c, Rd wx B y → Calls Tryd.prog 18 #[.slice B y.length c] wx fun e w' => ∃ A c, e = .returned (.slice A k c) ∧ Rd w' A (Pk.putL y) ∧ Below wx.heap.size wx w') := ⟨fun wx B c hx => (PY.out wx B c hx).mono fun e w' h => by
      obtain ⟨A, c, h1, h2, h3⟩ := h
      rw [hlen] at h1
      exact ⟨A, c, h1, h2, h3⟩⟩
    have SM : Kept (∀ wx B c c', Rd wx B (Pk.putL y) → Rd wx A' m → Calls Tryd.prog 13 #[.slice B k c, .slice A' k c'] wx fun e w' => e = .returned (.bool true) ∧ Below wx.heap.size wx w') := ⟨fun wx B c c' hx hy => same_yes B A' (Pk.putL y) k c c' wx hx (by rw [he]; exact take_rd hy k) hlen (by omega)⟩
    clear hlen he
    have k0 : (0 : Int) ≤ (k : Int) := by omega
    have k1 : (k : Int) ≤ (m.length : Int) := by omega
    have k2 : (k : Int) ≤ (c' : Int) := by omega
    have hd : decide ((k : Int) ≤ (m.length : Int)) = true := decide_eq_true k1
    clear F3 F4 PY GM GI GA PA CI CP HT HC' HR
    go_wp2_with (fail)
    go_region_held3 (fun wx => Below w11.heap.size w11 wx) (first
        | exact below_draw (Below.refl _ _)
        | exact below_step (by assumption) (by assumption)) (first
      | (go_at_call 18; refine (PK.out _ _ _ (R11.out.below (by assumption))).mono ?_; rintro e w12 ⟨A12, c12, rfl, hr12, hb12⟩)
      | (go_at_call 13; refine (SM.out _ _ _ _ (by assumption) (HR'.out.below (g11.trans (Below.mono (by assumption) g11.size)))).mono ?_; rintro e w13 ⟨rfl, hb13⟩))
    all_goals
      go_wp2
      go_ret
      exact ⟨rfl, g11.trans (Below.mono (by with_reducible assumption) g11.size)⟩
end Go.Proofs.YtokphfpjgmmklaaDoor.Wk
