/- The walks over the document's digit and text (chapter 31). -/
import Derived.Test.YtakccaldcolbmaaGreatDoorLinesRefW
import Derived.Deep.RegionWith
import Derived.Deep.AppendLies
import Derived.Deep.RegionLaw
import Derived.Deep.QuietTactic
namespace Go.Proofs.YtakccaldcolbmaaGreatDoor.Wln
open Go Go.RowKit Go.Proofs.YtakccaldcolbmaaGreatDoor.Kb

theorem digit_lt {c : UInt8} {x : Nat} (h : Pln.digit c = some x) : x < 16 := by
  unfold Pln.digit at h
  split at h
  · rename_i h1
    cases h
    have a2 := UInt8.le_iff_toNat_le.1 h1.2
    have e2 : (57 : UInt8).toNat = 57 := rfl
    omega
  · split at h
    · rename_i h1
      cases h
      have a2 := UInt8.le_iff_toNat_le.1 h1.2
      have e2 : (102 : UInt8).toNat = 102 := rfl
      omega
    · cases h
def digI (c : UInt8) : Int := match Pln.digit c with | some x => x | none => -1
theorem ret_int {a b : Int} (h : a = b) : Ending.returned (.int .i64 a) = .returned (.int .i64 b) := by rw [h]
set_option maxHeartbeats 1000000 in
theorem digit_any (c : UInt8) (w : World) : Calls Tryz.prog 118 #[.int .u8 (c.toNat : Int)] w fun e w' => e = .returned (.int .i64 (digI c)) ∧ w = w' := by
  have hc : c.toNat < 256 := c.toNat_lt
  have hle : ∀ n : Nat, n < 256 → ((UInt8.ofNat n ≤ c) ↔ n ≤ c.toNat) := fun n hn => by rw [UInt8.le_iff_toNat_le, UInt8.toNat_ofNat']; omega
  have hge : ∀ n : Nat, n < 256 → ((c ≤ UInt8.ofNat n) ↔ c.toNat ≤ n) := fun n hn => by rw [UInt8.le_iff_toNat_le, UInt8.toNat_ofNat']; omega
  have hd : digI c = if 48 ≤ c.toNat ∧ c.toNat ≤ 57 then (c.toNat : Int) - 48 else if 97 ≤ c.toNat ∧ c.toNat ≤ 102 then (c.toNat : Int) - 87 else -1 := by
    unfold digI Pln.digit
    have e1 := hle 48 (by decide); have e2 := hge 57 (by decide); have e3 := hle 97 (by decide); have e4 := hge 102 (by decide)
    by_cases h1 : 48 ≤ c.toNat ∧ c.toNat ≤ 57
    · rw [if_pos ⟨e1.2 h1.1, e2.2 h1.2⟩, if_pos h1]
      show ((c.toNat - 48 : Nat) : Int) = _
      omega
    · rw [if_neg (fun h => h1 ⟨e1.1 h.1, e2.1 h.2⟩), if_neg h1]
      by_cases h2 : 97 ≤ c.toNat ∧ c.toNat ≤ 102
      · rw [if_pos ⟨e3.2 h2.1, e4.2 h2.2⟩, if_pos h2]
        show ((c.toNat - 87 : Nat) : Int) = _
        omega
      · rw [if_neg (fun h => h2 ⟨e3.1 h.1, e4.1 h.2⟩), if_neg h2]
  clear hle hge
  rw [hd]
  clear hd
  generalize c.toNat = n at hc
  by_cases h1 : 48 ≤ n ∧ n ≤ 57
  · rw [if_pos h1]
    obtain ⟨h1, h2⟩ := h1
    have a1 : (48 : Int) ≤ (n : Int) := by omega
    have a2 : (n : Int) ≤ 57 := by omega
    go_enter Tryz.func118, Tryz.ntmps118
    go_wp2
    go_ret
    exact ⟨ret_int (by omega), rfl⟩
  · rw [if_neg h1]
    by_cases h2 : 97 ≤ n ∧ n ≤ 102
    · rw [if_pos h2]
      obtain ⟨h2, h3⟩ := h2
      have a1 : (48 : Int) ≤ (n : Int) := by omega
      have a2 : ¬ (n : Int) ≤ 57 := by omega
      have a3 : (97 : Int) ≤ (n : Int) := by omega
      have a4 : (n : Int) ≤ 102 := by omega
      clear h1
      go_enter Tryz.func118, Tryz.ntmps118
      go_wp2
      go_ret
      exact ⟨ret_int (by omega), rfl⟩
    · rw [if_neg h2]
      by_cases h3 : 48 ≤ n
      · have a1 : (48 : Int) ≤ (n : Int) := by omega
        have a2 : ¬ (n : Int) ≤ 57 := by omega
        by_cases h4 : 97 ≤ n
        · have a3 : (97 : Int) ≤ (n : Int) := by omega
          have a4 : ¬ (n : Int) ≤ 102 := by omega
          clear h1 h2
          go_enter Tryz.func118, Tryz.ntmps118
          go_wp2
          go_ret
          exact ⟨rfl, rfl⟩
        · have a3 : ¬ (97 : Int) ≤ (n : Int) := by omega
          clear h1 h2
          go_enter Tryz.func118, Tryz.ntmps118
          go_wp2
          go_ret
          exact ⟨rfl, rfl⟩
      · have a1 : ¬ (48 : Int) ≤ (n : Int) := by omega
        have a3 : ¬ (97 : Int) ≤ (n : Int) := by omega
        clear h1 h2
        go_enter Tryz.func118, Tryz.ntmps118
        go_wp2
        go_ret
        exact ⟨rfl, rfl⟩
/-- bytes as cells -/
def bcN (l : List UInt8) : List Value := l.map fun b => .int .u8 (b.toNat : Int)
theorem hexcell {x y : Nat} (hx : x < 16) (hy : y < 16) : bcN [UInt8.ofNat (16 * x + y)] = [.int .u8 (16 * (x : Int) + (y : Int))] := by
  unfold bcN
  rw [List.map_cons, List.map_nil, UInt8.toNat_ofNat', Nat.mod_eq_of_lt (by omega)]
  rfl
theorem bcN_append (l m : List UInt8) : bcN (l ++ m) = bcN l ++ bcN m := by simp [bcN]
theorem infoY : (Tryz.prog.info? 5).map (fun i => (i.zero, i.size, i.bytes)) = some (some (.int .u8 0), 1, 1) := by kernel_rfl
theorem own_shape_b {w : World} {base n : Nat} {v : Value} {xs : List Value} (h : w.ownsRow base 5 1 v n xs) : ∃ A c, v = .slice A n c := by
  rcases h.2 with ⟨h, hn⟩ | ⟨g, cap, cur, h, _⟩
  · rw [hn]; exact ⟨none, 0, h⟩
  · exact ⟨_, cap, h⟩
theorem conv_ownB {w : World} {base n c : Nat} {A : Option Addr} (l : List UInt8) (h : w.ownsRow base 5 1 (.slice A n c) n (bcN l)) (hn : l.length = n) : (convert 46 9 (.slice A n c)).run Tryz.prog w = .ok (.string ⟨l.toArray⟩) w := by
  rcases h.2 with ⟨e, h0⟩ | ⟨g, cap, cur, e, _⟩
  · cases e
    obtain rfl : l = [] := List.length_eq_zero_iff.1 (by omega)
    exact run_convert_bytes_nil w _ 5 Tryz.underlying46 Tryz.underlying5 _ _ _ Tryz.underlying9
  · cases e
    subst hn
    refine run_convert_bytes_back _ _ _ 5 _ c l Tryz.underlying46 Tryz.underlying5 Tryz.underlying9 (fun j hj => ?_)
    exact h.cells (g := g) rfl j _ (by simp [bcN, List.getElem?_eq_getElem hj])
set_option maxRecDepth 100000 in
set_option maxHeartbeats 8000000 in
theorem reftext_in (s u : ByteArray) (U : List UInt8) (w : World) (hs : s.size ≤ 1000000) (h2 : 2 ≤ s.size) (h34 : s[0].toNat = 34) (hu : s.extract 1 (s.size - 1) = u) (hU : u.data.toList = U) :
    Calls Tryz.prog 95 #[.string s] w fun e w' => (match Pln.textF U with
      | some t => e = .returned (.tuple #[.string ⟨t.toArray⟩, .bool true])
      | none => e = .returned (.tuple #[.string ⟨#[]⟩, .bool false])) ∧ Below w.heap.size w w' := by
  obtain ⟨i0', hi, hz0, hz1, hz2⟩ := info_parts infoY
  have hl := size_len u
  have hus : u.size = s.size - 2 := by rw [← hu]; simp; omega
  rw [hU] at hl
  have HX := Kept.mk (fun (k : Nat) (h : k < u.size) => (by have := byte_get u k h; rwa [hU] at this : U[k]? = some (u[k]'h)))
  have HT : Kept ((Pln.textF (U.drop 0)).map (([] : List UInt8) ++ ·) = Pln.textF U) := ⟨by rw [List.drop_zero]; cases Pln.textF U <;> rfl⟩
  generalize Pln.textF U = T at HT ⊢
  have e34 : ((s[0].toNat : Nat) : Int) = 34 := by omega
  have a1 : ¬ (s.size : Int) < 2 := by omega
  have y1 : (1 : Int) ≤ (s.size : Int) - 1 := by omega
  have y2 : (s.size : Int) - 1 ≤ (s.size : Int) := by omega
  have hsl : s.extract 1 ((s.size : Int) - 1).toNat = u := by rw [← hu]; congr 1; omega
  have HU := Kept.mk hus
  have hu2 : s.extract 1 (s.size - 1) = u := hu
  clear hu hU h34 hus
  go_enter Tryz.func95, Tryz.ntmps95
  go_wp2
  go_loopw [5, 6, 7] (fun v i _c wx => ∃ (k : Nat) (M : List UInt8), i = .int .i64 k ∧ k ≤ u.size ∧ M.length ≤ k ∧ Kept ((Pln.textF (U.drop k)).map (M ++ ·) = T) ∧ Kept (wx.ownsRow w.heap.size 5 1 v M.length (bcN M)) ∧ Kept (Below w.heap.size w wx)) (fun _ i _ _ => u.size - (intOf i).toNat)
  case atStart => exact ⟨0, [], rfl, by omega, by simp, HT, ⟨World.ownsRow_nil _ _ _ _⟩, ⟨Below.refl _ _⟩⟩
  case round =>
    clear HT hsl hu2 y1 y2 a1 e34
    obtain ⟨k, M, rfl, hk, hM, HT, HO, HB⟩ := hrel
    have k0 : (0 : Int) ≤ (k : Int) := by omega
    have s3 := HB.out.size
    have hub : u.size ≤ 1000000 := by have := HU.out; omega
    by_cases hlt : k < u.size
    · have k1 : (k : Int) < (u.size : Int) := by omega
      have hx := HX.out k hlt
      by_cases c1 : u[k].toNat < 32
      · have f1 : ((u[k].toNat : Nat) : Int) < 32 := by omega
        have ht := HT.out
        rw [Pln.text_bad hx (.inl (UInt8.lt_iff_toNat_lt.2 c1))] at ht
        obtain rfl : T = none := by rw [← ht]; rfl
        clear ht HT
        go_wp2
        go_ret2
        exact ⟨rfl, HB.out⟩
      have f1 : ¬ ((u[k].toNat : Nat) : Int) < 32 := by omega
      by_cases c2 : 126 < u[k].toNat
      · have f2 : (126 : Int) < ((u[k].toNat : Nat) : Int) := by omega
        have ht := HT.out
        rw [Pln.text_bad hx (.inr (.inl (UInt8.lt_iff_toNat_lt.2 c2)))] at ht
        obtain rfl : T = none := by rw [← ht]; rfl
        clear ht HT
        go_wp2
        go_ret2
        exact ⟨rfl, HB.out⟩
      have f2 : ¬ (126 : Int) < ((u[k].toNat : Nat) : Int) := by omega
      by_cases c3 : u[k].toNat = 34
      · have f3 : ((u[k].toNat : Nat) : Int) = 34 := by omega
        have ht := HT.out
        rw [Pln.text_bad hx (.inr (.inr (UInt8.toNat_inj.1 (by rw [c3]; rfl))))] at ht
        obtain rfl : T = none := by rw [← ht]; rfl
        clear ht HT
        go_wp2
        go_ret2
        exact ⟨rfl, HB.out⟩
      have f3 : (((u[k].toNat : Nat) : Int) == 34) = false := by simp; omega
      have hok : ¬ (u[k] < 32 ∨ 126 < u[k] ∨ u[k] = 34) := fun e => e.elim (fun e => c1 (UInt8.lt_iff_toNat_lt.1 e)) (fun e => e.elim (fun e => c2 (UInt8.lt_iff_toNat_lt.1 e)) (fun e => c3 (by rw [e]; rfl)))
      by_cases c4 : u[k].toNat = 92
      · have f4 : (((u[k].toNat : Nat) : Int) != 92) = false := by simp; omega
        have hc : u[k] = 92 := UInt8.toNat_inj.1 (by rw [c4]; rfl)
        rw [hc] at hx
        clear hok hc c1 c2 c3 c4
        by_cases hl2 : k + 1 < u.size
        · have k2 : (k : Int) + 1 < (u.size : Int) := by omega
          have k3 : ¬ (u.size : Int) ≤ (k : Int) + 1 := by omega
          have hy := HX.out (k + 1) hl2
          by_cases d34 : u[k + 1].toNat = 34
          · have g34 : ((u[k + 1].toNat : Nat) : Int) = 34 := by omega
            have hd : u[k + 1] = 34 := UInt8.toNat_inj.1 (by rw [d34]; rfl)
            rw [hd] at hy
            have HT2 : Kept ((Pln.textF (U.drop (k + 2))).map ((M ++ [34]) ++ ·) = T) := ⟨by rw [← HT.out, Pln.text_esc hx hy (.inl rfl), Option.map_map]; congr 1; funext x; simp⟩
            clear hx HT
            go_wp2_with (at_builtin; refine wpList_append_own _ rfl (.tmp 58) (.tmp 62) 46 rfl w.heap.size 5 i0' (.int .u8 0) 1 1 Tryz.underlying46 hi hz0 hz1 hz2 rfl (by decide) _ _ _ (by rfl) (HO.out.alloc _) ⟨wr.heap.size, 0, none⟩ 1 1 [.int .u8 34] (by rfl) (by rfl) (cell_one_new _ _ _) (by intro u hu; simp at hu; subst hu; rfl) (by unfold maxLen; omega) (by omega) (by simp; omega) ?_; intro v' w5 hown5 hgrow5 _; have hb5 := Below.grown (HB.out.alloc s3 _) hgrow5 (by simp; omega) (fun q hq => (HO.out.lt q hq).1); have O5 := Kept.mk hown5; have B5 := Kept.mk hb5; clear hown5 hgrow5 hb5)
            go_roundw
            case rel => exact ⟨k + 2, M ++ [34], by go_num, by omega, by rw [List.length_append]; simp; omega, HT2, ⟨by rw [bcN_append, List.length_append]; exact O5.out⟩, B5⟩
            case measure => simp [intOf]; omega
          have g34 : (((u[k + 1].toNat : Nat) : Int) == 34) = false := by simp; omega
          by_cases d92 : u[k + 1].toNat = 92
          · have g92 : ((u[k + 1].toNat : Nat) : Int) = 92 := by omega
            have hd : u[k + 1] = 92 := UInt8.toNat_inj.1 (by rw [d92]; rfl)
            rw [hd] at hy
            have HT2 : Kept ((Pln.textF (U.drop (k + 2))).map ((M ++ [92]) ++ ·) = T) := ⟨by rw [← HT.out, Pln.text_esc hx hy (.inr rfl), Option.map_map]; congr 1; funext x; simp⟩
            clear hx HT
            go_wp2_with (at_builtin; refine wpList_append_own _ rfl (.tmp 58) (.tmp 62) 46 rfl w.heap.size 5 i0' (.int .u8 0) 1 1 Tryz.underlying46 hi hz0 hz1 hz2 rfl (by decide) _ _ _ (by rfl) (HO.out.alloc _) ⟨wr.heap.size, 0, none⟩ 1 1 [.int .u8 92] (by rfl) (by rfl) (cell_one_new _ _ _) (by intro u hu; simp at hu; subst hu; rfl) (by unfold maxLen; omega) (by omega) (by simp; omega) ?_; intro v' w5 hown5 hgrow5 _; have hb5 := Below.grown (HB.out.alloc s3 _) hgrow5 (by simp; omega) (fun q hq => (HO.out.lt q hq).1); have O5 := Kept.mk hown5; have B5 := Kept.mk hb5; clear hown5 hgrow5 hb5)
            go_roundw
            case rel => exact ⟨k + 2, M ++ [92], by go_num, by omega, by rw [List.length_append]; simp; omega, HT2, ⟨by rw [bcN_append, List.length_append]; exact O5.out⟩, B5⟩
            case measure => simp [intOf]; omega
          have g92 : (((u[k + 1].toNat : Nat) : Int) == 92) = false := by simp; omega
          by_cases d110 : u[k + 1].toNat = 110
          · have g110 : ((u[k + 1].toNat : Nat) : Int) = 110 := by omega
            have hd : u[k + 1] = 110 := UInt8.toNat_inj.1 (by rw [d110]; rfl)
            rw [hd] at hy
            have HT2 : Kept ((Pln.textF (U.drop (k + 2))).map ((M ++ [10]) ++ ·) = T) := ⟨by rw [← HT.out, Pln.text_n hx hy, Option.map_map]; congr 1; funext x; simp⟩
            clear hx HT
            go_wp2_with (at_builtin; refine wpList_append_own _ rfl (.tmp 66) (.tmp 67) 46 rfl w.heap.size 5 i0' (.int .u8 0) 1 1 Tryz.underlying46 hi hz0 hz1 hz2 rfl (by decide) _ _ _ (by rfl) (HO.out.alloc _) ⟨wr.heap.size, 0, none⟩ 1 1 [.int .u8 10] (by rfl) (by rfl) (cell_one_new _ _ _) (by intro u hu; simp at hu; subst hu; rfl) (by unfold maxLen; omega) (by omega) (by simp; omega) ?_; intro v' w5 hown5 hgrow5 _; have hb5 := Below.grown (HB.out.alloc s3 _) hgrow5 (by simp; omega) (fun q hq => (HO.out.lt q hq).1); have O5 := Kept.mk hown5; have B5 := Kept.mk hb5; clear hown5 hgrow5 hb5)
            go_roundw
            case rel => exact ⟨k + 2, M ++ [10], by go_num, by omega, by rw [List.length_append]; simp; omega, HT2, ⟨by rw [bcN_append, List.length_append]; exact O5.out⟩, B5⟩
            case measure => simp [intOf]; omega
          have g110 : (((u[k + 1].toNat : Nat) : Int) == 110) = false := by simp; omega
          by_cases d116 : u[k + 1].toNat = 116
          · have g116 : ((u[k + 1].toNat : Nat) : Int) = 116 := by omega
            have hd : u[k + 1] = 116 := UInt8.toNat_inj.1 (by rw [d116]; rfl)
            rw [hd] at hy
            have HT2 : Kept ((Pln.textF (U.drop (k + 2))).map ((M ++ [9]) ++ ·) = T) := ⟨by rw [← HT.out, Pln.text_t hx hy, Option.map_map]; congr 1; funext x; simp⟩
            clear hx HT
            go_wp2_with (at_builtin; refine wpList_append_own _ rfl (.tmp 71) (.tmp 72) 46 rfl w.heap.size 5 i0' (.int .u8 0) 1 1 Tryz.underlying46 hi hz0 hz1 hz2 rfl (by decide) _ _ _ (by rfl) (HO.out.alloc _) ⟨wr.heap.size, 0, none⟩ 1 1 [.int .u8 9] (by rfl) (by rfl) (cell_one_new _ _ _) (by intro u hu; simp at hu; subst hu; rfl) (by unfold maxLen; omega) (by omega) (by simp; omega) ?_; intro v' w5 hown5 hgrow5 _; have hb5 := Below.grown (HB.out.alloc s3 _) hgrow5 (by simp; omega) (fun q hq => (HO.out.lt q hq).1); have O5 := Kept.mk hown5; have B5 := Kept.mk hb5; clear hown5 hgrow5 hb5)
            go_roundw
            case rel => exact ⟨k + 2, M ++ [9], by go_num, by omega, by rw [List.length_append]; simp; omega, HT2, ⟨by rw [bcN_append, List.length_append]; exact O5.out⟩, B5⟩
            case measure => simp [intOf]; omega
          have g116 : (((u[k + 1].toNat : Nat) : Int) == 116) = false := by simp; omega
          by_cases d120 : u[k + 1].toNat = 120
          · have g120 : ((u[k + 1].toNat : Nat) : Int) = 120 := by omega
            have hd : u[k + 1] = 120 := UInt8.toNat_inj.1 (by rw [d120]; rfl)
            rw [hd] at hy
            by_cases hl4 : k + 3 < u.size
            · have k4 : ¬ (u.size : Int) ≤ (k : Int) + 1 + 2 := by omega
              have k5 : (k : Int) + 1 + 1 < (u.size : Int) := by omega
              have k6 : (k : Int) + 1 + 2 < (u.size : Int) := by omega
              have ha := HX.out (k + 2) (by omega)
              have hb := HX.out (k + 3) hl4
              have e2 : ((k : Int) + 1 + 1).toNat = k + 2 := by omega
              have e3 : ((k : Int) + 1 + 2).toNat = k + 3 := by omega
              cases qa : Pln.digit u[k + 2] with
              | none =>
                have da : digI u[k + 2] = -1 := by unfold digI; rw [qa]
                have ht := HT.out
                rw [Pln.text_x_bad hx hy (.inr (.inl ⟨_, ha, qa⟩))] at ht
                obtain rfl : T = none := by rw [← ht]; rfl
                clear ht HT
                go_wp2_with (go_at_call 118; refine (digit_any _ _).mono ?_; rintro e w5 ⟨rfl, rfl⟩)
                go_ret2
                exact ⟨rfl, HB.out⟩
              | some x =>
                have da : digI u[k + 2] = (x : Int) := by unfold digI; rw [qa]
                have x0 : ¬ (x : Int) < 0 := by omega
                cases qb : Pln.digit u[k + 3] with
                | none =>
                  have db : digI u[k + 3] = -1 := by unfold digI; rw [qb]
                  have ht := HT.out
                  rw [Pln.text_x_bad hx hy (.inr (.inr ⟨_, hb, qb⟩))] at ht
                  obtain rfl : T = none := by rw [← ht]; rfl
                  clear ht HT
                  go_wp2_with (go_at_call 118; refine (digit_any _ _).mono ?_; rintro e w5 ⟨rfl, rfl⟩)
                  go_ret2
                  exact ⟨rfl, HB.out⟩
                | some y =>
                  have db : digI u[k + 3] = (y : Int) := by unfold digI; rw [qb]
                  have y0 : ¬ (y : Int) < 0 := by omega
                  have HD := Kept.mk (show x < 16 ∧ y < 16 from ⟨digit_lt qa, digit_lt qb⟩)
                  have HT2 : Kept ((Pln.textF (U.drop (k + 4))).map ((M ++ [UInt8.ofNat (16 * x + y)]) ++ ·) = T) := ⟨by rw [← HT.out, Pln.text_x hx hy ha hb qa qb, Option.map_map]; congr 1; funext z; simp⟩
                  have w1 : IntKind.i64.wrap ((k : Int) + 1 + 1) = (k : Int) + 1 + 1 := by rw [IntKind.wrap_i64]; omega
                  have w2 : IntKind.i64.wrap ((k : Int) + 1 + 2) = (k : Int) + 1 + 2 := by rw [IntKind.wrap_i64]; omega
                  have w3 : IntKind.i64.wrap (16 * (x : Int)) = 16 * (x : Int) := by rw [IntKind.wrap_i64]; have := HD.out; omega
                  have w4 : IntKind.i64.wrap (16 * (x : Int) + (y : Int)) = 16 * (x : Int) + (y : Int) := by rw [IntKind.wrap_i64]; have := HD.out; omega
                  have w5 : IntKind.u8.wrap (16 * (x : Int) + (y : Int)) = 16 * (x : Int) + (y : Int) := by rw [IntKind.wrap_u8]; have := HD.out; omega
                  have k56 : (0 : Int) ≤ (k : Int) + 1 + 1 ∧ (k : Int) + 1 + 1 < (u.size : Int) := ⟨by omega, k5⟩
                  have k66 : (0 : Int) ≤ (k : Int) + 1 + 2 ∧ (k : Int) + 1 + 2 < (u.size : Int) := ⟨by omega, k6⟩
                  clear hx HT ha hb qa qb
                  go_wp2_with (go_at_call 118; refine (digit_any _ _).mono ?_; rintro e w5 ⟨rfl, rfl⟩)
                  have ho2 : Kept (wr.drew.ownsRow w.heap.size 5 1 u5 M.length (bcN M)) := HO
                  go_region_law (first
                    | (refine step_append_lies _ rfl (.tmp 97) (.tmp 111) 46 rfl w.heap.size 5 i0' (.int .u8 0) 1 1 Tryz.underlying46 hi hz0 hz1 hz2 rfl (by decide) u5 M.length (bcN M) (by rfl) (ho2.out.alloc _) ⟨wr.heap.size, 0, none⟩ 1 1 [.int .u8 (16 * (x : Int) + (y : Int))] (by rfl) (by rfl) (cell_one_new _ _ _) (by intro u hu; simp at hu; subst hu; rfl) (by decide) (by unfold maxLen; omega) (by omega) (by simp; omega) _ rfl ?_; intro g6 cap6 w6 hown6 hgrow6 _ _; have hb6 := Below.grown (HB.out.drew.alloc s3 _) hgrow6 (by simp; omega) (fun q hq => (HO.out.lt q hq).1); have O6 := Kept.mk hown6; have B6 := Kept.mk hb6; clear hown6 hgrow6 hb6)
                    | (go_simp; go_at_call 118; refine (digit_any _ _).mono ?_; rintro e w5 ⟨rfl, rfl⟩))
                  all_goals
                    go_wp2
                    go_roundw
                  all_goals first
                    | exact ⟨k + 4, M ++ [UInt8.ofNat (16 * x + y)], by go_num, by omega, by rw [List.length_append]; simp; omega, HT2, ⟨by rw [bcN_append, List.length_append, hexcell HD.out.1 HD.out.2]; exact O6.out⟩, B6⟩
                    | (simp [intOf]; omega)
            · have k4 : (u.size : Int) ≤ (k : Int) + 1 + 2 := by omega
              have ht := HT.out
              rw [Pln.text_x_bad hx hy (.inl (by omega))] at ht
              obtain rfl : T = none := by rw [← ht]; rfl
              clear ht HT
              go_wp2
              go_ret2
              exact ⟨rfl, HB.out⟩
          have g120 : (((u[k + 1].toNat : Nat) : Int) == 120) = false := by simp; omega
          have ht := HT.out
          rw [Pln.text_other hx hy (fun e => e.elim (fun e => d34 (by rw [e]; rfl)) (fun e => d92 (by rw [e]; rfl))) (fun e => d110 (by rw [e]; rfl)) (fun e => d116 (by rw [e]; rfl)) (fun e => d120 (by rw [e]; rfl))] at ht
          obtain rfl : T = none := by rw [← ht]; rfl
          clear ht HT
          go_wp2
          go_ret2
          exact ⟨rfl, HB.out⟩
        · have k3 : (u.size : Int) ≤ (k : Int) + 1 := by omega
          have ht := HT.out
          rw [Pln.text_last hx (by omega)] at ht
          obtain rfl : T = none := by rw [← ht]; rfl
          clear ht HT
          go_wp2
          go_ret2
          exact ⟨rfl, HB.out⟩
      · have f4 : (((u[k].toNat : Nat) : Int) != 92) = true := by simp; omega
        have n4 : u[k] ≠ 92 := fun e => c4 (by rw [e]; rfl)
        have HT2 : Kept ((Pln.textF (U.drop (k + 1))).map ((M ++ [u[k]]) ++ ·) = T) := ⟨by rw [← HT.out, Pln.text_plain hx hok n4, Option.map_map]; congr 1; funext x; simp⟩
        clear hx HT
        go_wp2_with (at_builtin; refine wpList_append_own _ rfl (.tmp 42) (.tmp 44) 46 rfl w.heap.size 5 i0' (.int .u8 0) 1 1 Tryz.underlying46 hi hz0 hz1 hz2 rfl (by decide) _ _ _ (by rfl) (HO.out.alloc _) ⟨wr.heap.size, 0, none⟩ 1 1 [.int .u8 (u[k].toNat : Int)] (by rfl) (by rfl) (cell_one_new _ _ _) (by intro u hu; simp at hu; subst hu; rfl) (by unfold maxLen; omega) (by omega) (by simp; omega) ?_; intro v' w5 hown5 hgrow5 _; have hb5 := Below.grown (HB.out.alloc s3 _) hgrow5 (by simp; omega) (fun q hq => (HO.out.lt q hq).1); have O5 := Kept.mk hown5; have B5 := Kept.mk hb5; clear hown5 hgrow5 hb5)
        go_roundw
        case rel => exact ⟨k + 1, M ++ [u[k]], by go_num, by omega, by rw [List.length_append]; simp; omega, HT2, ⟨by rw [bcN_append, List.length_append]; exact O5.out⟩, B5⟩
        case measure => simp [intOf]; omega
    · obtain rfl : k = u.size := by omega
      have ht := HT.out
      rw [Pln.text_end (by omega)] at ht
      obtain rfl : T = some M := by rw [← ht]; simp
      obtain ⟨A1, c1, rfl⟩ := own_shape_b HO.out
      have hcv := conv_ownB M HO.out rfl
      clear ht HT
      go_wp2
      go_ret2
      exact ⟨rfl, HB.out⟩
end Go.Proofs.YtakccaldcolbmaaGreatDoor.Wln
