/- The walks over the document's comment and quoted (chapter 22). -/
import Derived.Test.YtfamljigcffngaaGreatDoorLexScanA
namespace Go.Proofs.YtfamljigcffngaaGreatDoor.Wlx
open Go Go.RowKit Go.Proofs.YtfamljigcffngaaGreatDoor.Wch

/-- where a comment ends, as the document tells it -/
def comAt (l : List UInt8) (d : Int) (pos : Nat) : Int := match Plx.com d (l.drop pos) with
  | none => -1
  | some n => ((pos + n : Nat) : Int)
theorem comAt_end (l : List UInt8) (d : Int) (pos : Nat) (h : ¬ pos + 1 < l.length) : comAt l d pos = -1 := by
  have hl : (l.drop pos).length ≤ 1 := by rw [List.length_drop]; omega
  unfold comAt
  match hd : l.drop pos with
  | [] => rfl
  | [_] => rfl
  | _ :: _ :: _ => rw [hd] at hl; simp at hl
theorem drop_two (s : ByteArray) (k : Nat) (h : k + 1 < s.size) : s.data.toList.drop k = s[k] :: s[k + 1] :: s.data.toList.drop (k + 2) := by
  rw [drop_at s k (by omega), drop_at s (k + 1) h]
theorem map_add (o : Option Nat) (pos k : Nat) : (match o.map (· + k) with | none => (-1 : Int) | some n => ((pos + n : Nat) : Int)) = match o with | none => -1 | some n => ((pos + k + n : Nat) : Int) := by
  cases o with
  | none => rfl
  | some n => show ((pos + (n + k) : Nat) : Int) = _; congr 1; omega
theorem comAt_open (s : ByteArray) (d : Int) (k : Nat) (h : k + 1 < s.size) (h1 : s[k] = 40 ∧ s[k + 1] = 58) : comAt s.data.toList d k = comAt s.data.toList (d + 1) (k + 2) := by
  unfold comAt
  rw [drop_two s k h, Plx.com, if_pos h1, map_add]
theorem comAt_last (s : ByteArray) (k : Nat) (h : k + 1 < s.size) (h1 : s[k] = 58 ∧ s[k + 1] = 41) : comAt s.data.toList 1 k = ((k + 2 : Nat) : Int) := by
  unfold comAt
  rw [drop_two s k h, Plx.com, if_neg (by rw [h1.1]; intro e; exact absurd e.1 (by decide)), if_pos h1, if_pos rfl]
theorem comAt_shut (s : ByteArray) (d : Int) (k : Nat) (h : k + 1 < s.size) (h1 : s[k] = 58 ∧ s[k + 1] = 41) (hd : d ≠ 1) : comAt s.data.toList d k = comAt s.data.toList (d - 1) (k + 2) := by
  unfold comAt
  rw [drop_two s k h, Plx.com, if_neg (by rw [h1.1]; intro e; exact absurd e.1 (by decide)), if_pos h1, if_neg hd, map_add]
theorem comAt_other (s : ByteArray) (d : Int) (k : Nat) (h : k + 1 < s.size) (h1 : ¬ (s[k] = 40 ∧ s[k + 1] = 58)) (h2 : ¬ (s[k] = 58 ∧ s[k + 1] = 41)) : comAt s.data.toList d k = comAt s.data.toList d (k + 1) := by
  unfold comAt
  rw [drop_two s k h, Plx.com, if_neg h1, if_neg h2, map_add, drop_at s (k + 1) h]
theorem two_bytes (s : ByteArray) (k : Nat) (h : k + 1 < s.size) : (s.extract k (k + 2)).toList = [s[k], s[k + 1]] := by
  rw [ByteArray.toList_eq, Lib.extract_data, drop_two s k h]
  rw [show k + 2 - k = 2 by omega]
  rfl
set_option maxHeartbeats 1000000 in
theorem refComment_any (s : ByteArray) (at' : Nat) (w : World) (hs : s.size ≤ 100000) (hat : at' ≤ s.size) :
    Calls Tryz.prog 62 #[.string s, .int .i64 at'] w fun e w' => e = .returned (.int .i64 (comAt s.data.toList 0 at')) ∧ w = w' := by
  generalize hT : comAt s.data.toList 0 at' = T
  have HT := Lib.hid hT
  have HL := Kept.mk (size_len s)
  clear hT
  go_enter Tryz.func62, Tryz.ntmps62
  go_wp2
  go_loop [1, 5, 6] (fun a d _ => ∃ (pos : Nat) (D : Int), pos ≤ s.size ∧ a = .int .i64 pos ∧ d = .int .i64 D ∧ -(pos : Int) ≤ D ∧ D ≤ (pos : Int) ∧ Hid (comAt s.data.toList D pos = T)) (fun a _ _ => s.size - (intOf a).toNat)
  case atStart => exact ⟨at', 0, hat, rfl, rfl, by omega, by omega, HT.out⟩
  case round =>
    obtain ⟨pos, D, hp, rfl, rfl, d0, d1, H⟩ := hrel
    have j0 : (0 : Int) ≤ (pos : Int) := by omega
    by_cases hlt : pos + 1 < s.size
    · have e1 : (pos : Int) + 1 < (s.size : Int) := by omega
      have e2 : (pos : Int) + 2 ≤ (s.size : Int) := by omega
      have i4 : ((pos : Int) + 2).toNat = pos + 2 := by omega
      have htwo := two_bytes s pos hlt
      by_cases h1 : s[pos] = 40 ∧ s[pos + 1] = 58
      · have hX := comAt_open s D pos hlt h1
        rw [H.out] at hX
        have HX := Lib.hid hX
        rw [h1.1, h1.2] at htwo
        clear hX H h1
        go_wp2
        go_round
        case rel => exact ⟨pos + 2, D + 1, by omega, by go_num, rfl, by omega, by omega, HX.out.symm⟩
        case measure => simp [intOf]; omega
      · by_cases h2 : s[pos] = 58 ∧ s[pos + 1] = 41
        · rw [h2.1, h2.2] at htwo
          by_cases h3 : D = 1
          · subst h3
            have hX := comAt_last s pos hlt h2
            rw [H.out] at hX
            have HX := Lib.hid hX
            clear hX H h1 h2
            go_wp2
            go_ret
            exact ⟨ret_i64 (by rw [HX.out]; omega), rfl⟩
          · have hX := comAt_shut s D pos hlt h2 h3
            rw [H.out] at hX
            have HX := Lib.hid hX
            have e3 : (D - 1 == 0) = false := by simp; omega
            clear hX H h1 h2 h3
            go_wp2
            go_round
            case rel => exact ⟨pos + 2, D - 1, by omega, by go_num, rfl, by omega, by omega, HX.out.symm⟩
            case measure => simp [intOf]; omega
        · have hX := comAt_other s D pos hlt h1 h2
          rw [H.out] at hX
          have HX := Lib.hid hX
          have n1 : ([s[pos], s[pos + 1]] == [40, 58]) = false := by simpa using fun a b => h1 ⟨a, b⟩
          have n2 : ([s[pos], s[pos + 1]] == [58, 41]) = false := by simpa using fun a b => h2 ⟨a, b⟩
          rw [← htwo] at n1 n2
          clear hX H h1 h2 htwo
          go_wp2
          go_round
          case rel => exact ⟨pos + 1, D, by omega, by go_num, rfl, by omega, by omega, HX.out.symm⟩
          case measure => simp [intOf]; omega
    · have e1 : ¬ (pos : Int) + 1 < (s.size : Int) := by omega
      have HX : Hid (T = -1) := by
        show T = _
        rw [← H.out, comAt_end _ _ _ (by rw [HL.out]; exact hlt)]
      clear H
      go_wp2
      go_ret
      exact ⟨ret_i64 (by rw [HX.out]), rfl⟩

/-! ### strings -/
/-- bytes as cells -/
def bcL (l : List UInt8) : List Value := l.map fun b => Value.int .u8 (b.toNat : Int)
theorem bcL_append (l m : List UInt8) : bcL (l ++ m) = bcL l ++ bcL m := by simp [bcL]
theorem infoU : (Tryz.prog.info? 5).map (fun i => (i.zero, i.size, i.bytes)) = some (some (.int .u8 0), 1, 1) := by kernel_rfl
theorem conv_own {w : World} {base g n c : Nat} (l : List UInt8) (h : w.ownsRow base 5 1 (.slice (some ⟨g, 0, none⟩) n c) n (bcL l)) (hn : l.length = n) : (convert 72 9 (.slice (some ⟨g, 0, none⟩) n c)).run Tryz.prog w = .ok (.string ⟨l.toArray⟩) w := by
  subst hn
  refine run_convert_bytes_back _ _ _ 5 _ c l Tryz.underlying72 Tryz.underlying5 Tryz.underlying9 (fun j hj => ?_)
  exact h.cells (g := g) rfl j _ (by simp [bcL, List.getElem?_eq_getElem hj])
theorem own_formU {w : World} {base n : Nat} {v : Value} {xs : List Value} (h : w.ownsRow base 5 1 v n xs) : ∃ A c, v = .slice A n c := by
  rcases h.2 with ⟨rfl, hn⟩ | ⟨g, cap, cur, rfl, _⟩
  · subst hn; exact ⟨none, 0, rfl⟩
  · exact ⟨_, cap, rfl⟩
theorem conv_ownA {w : World} {base n c : Nat} {A : Option Addr} (l : List UInt8) (h : w.ownsRow base 5 1 (.slice A n c) n (bcL l)) (hn : l.length = n) : (convert 72 9 (.slice A n c)).run Tryz.prog w = .ok (.string ⟨l.toArray⟩) w := by
  rcases h.2 with ⟨e, h0⟩ | ⟨g, cap, cur, e, _⟩
  · cases e
    obtain rfl : l = [] := List.length_eq_zero_iff.1 (by omega)
    exact run_convert_bytes_nil w _ 5 Tryz.underlying72 Tryz.underlying5 _ _ _ Tryz.underlying9
  · cases e
    exact conv_own l h hn
/-- what is left of a string from a place on -/
def quoS (q : UInt8) (l : List UInt8) (k : Nat) (acc : List UInt8) : List UInt8 × Int := match Plx.quo q (l.drop k) with
  | none => ([], -1)
  | some x => (acc ++ x.1, ((k + x.2 : Nat) : Int))
theorem quoS_end (q : UInt8) (l : List UInt8) (k : Nat) (acc : List UInt8) (h : ¬ k < l.length) : quoS q l k acc = ([], -1) := by
  unfold quoS
  rw [List.drop_eq_nil_of_le (by omega)]
  rfl
theorem quoS_other (q : UInt8) (s : ByteArray) (k : Nat) (acc : List UInt8) (h : k < s.size) (hc : s[k] ≠ q) : quoS q s.data.toList k acc = quoS q s.data.toList (k + 1) (acc ++ [s[k]]) := by
  unfold quoS
  rw [drop_at s k h, Plx.quo_other _ _ _ hc]
  cases Plx.quo q (s.data.toList.drop (k + 1)) with
  | none => rfl
  | some x => simp; omega
theorem quoS_last (s : ByteArray) (k : Nat) (acc : List UInt8) (q : UInt8) (h : k < s.size) (hc : s[k] = q) (h2 : ¬ k + 1 < s.size) : quoS q s.data.toList k acc = (acc, ((k + 1 : Nat) : Int)) := by
  unfold quoS
  rw [drop_at s k h, List.drop_eq_nil_of_le (by rw [size_len]; omega), hc, Plx.quo_last]
  simp
theorem quoS_stop (s : ByteArray) (k : Nat) (acc : List UInt8) (q : UInt8) (h2 : k + 1 < s.size) (hc : s[k] = q) (hd : s[k + 1] ≠ q) : quoS q s.data.toList k acc = (acc, ((k + 1 : Nat) : Int)) := by
  unfold quoS
  rw [drop_two s k h2, hc, Plx.quo_end _ _ _ hd]
  simp
theorem quoS_two (s : ByteArray) (k : Nat) (acc : List UInt8) (q : UInt8) (h2 : k + 1 < s.size) (hc : s[k] = q) (hd : s[k + 1] = q) : quoS q s.data.toList k acc = quoS q s.data.toList (k + 2) (acc ++ [q]) := by
  unfold quoS
  rw [drop_two s k h2, hc, hd, Plx.quo_two]
  cases Plx.quo q (s.data.toList.drop (k + 2)) with
  | none => rfl
  | some x => simp; omega
theorem ret_si {a b : List UInt8 × Int} (h : a = b) : Ending.returned (.tuple #[.string ⟨a.1.toArray⟩, .int .i64 a.2]) = .returned (.tuple #[.string ⟨b.1.toArray⟩, .int .i64 b.2]) := by rw [h]
theorem below_app {w wr w3 : World} {v : Value} {n : Nat} {xs : List Value} {o : Obj} (hb : Below w.heap.size w wr) (hown : wr.ownsRow w.heap.size 5 1 v n xs) (hg : (wr.alloc o).grownBy w3 v.ownBlock) : Below w.heap.size w w3 :=
  Below.grown (hb.alloc hb.size _) hg (by have := hb.size; rw [World.size_alloc]; omega) (fun _ hj => (hown.lt _ hj).1)
set_option maxRecDepth 100000 in
set_option maxHeartbeats 2000000 in
theorem refQuoted_any (s : ByteArray) (at' : Nat) (w : World) (hs : s.size ≤ 100000) (hat : at' < s.size) :
    Calls Tryz.prog 103 #[.string s, .int .i64 at'] w fun e w' => e = .returned (.tuple #[.string ⟨(quoS s[at'] s.data.toList (at' + 1) []).1.toArray⟩, .int .i64 (quoS s[at'] s.data.toList (at' + 1) []).2]) ∧ Below w.heap.size w w' := by
  generalize hT : quoS s[at'] s.data.toList (at' + 1) [] = T
  have HT := Lib.hid hT
  have HL := Kept.mk (size_len s)
  clear hT
  obtain ⟨i0', hi', hz0', hz1', hz2'⟩ := info_parts infoU
  have a0 : (0 : Int) ≤ (at' : Int) := by omega
  have a1 : (at' : Int) < (s.size : Int) := by omega
  go_enter Tryz.func103, Tryz.ntmps103
  go_wp2
  go_loopw [7, 8] (fun v i wx => ∃ (k : Nat) (acc : List UInt8), k ≤ s.size ∧ i = .int .i64 k ∧ wx.ownsRow w.heap.size 5 1 v acc.length (bcL acc) ∧ acc.length ≤ k ∧ Below w.heap.size w wx ∧ Hid (quoS s[at'] s.data.toList k acc = T)) (fun _ i _ => s.size - (intOf i).toNat)
  case atStart => exact ⟨at' + 1, [], by omega, by go_num, World.ownsRow_nil _ _ _ _, by simp, Below.refl _ _, HT.out⟩
  case round =>
    obtain ⟨k, acc, hk, rfl, hO, hal, hB, H⟩ := hrel
    have O3 := Kept.mk hO
    have B3 := Kept.mk hB
    have j0 : (0 : Int) ≤ (k : Int) := by omega
    have s3 := hB.size
    obtain ⟨A3, c3, rfl⟩ := own_formU hO
    have hcv := conv_ownA acc hO rfl
    have CV := Kept.mk hcv
    clear hO hB hcv
    by_cases hlt : k < s.size
    · have j1 : (k : Int) < (s.size : Int) := by omega
      by_cases hc : s[k] = s[at']
      · have e1 : ((s[k].toNat : Int) != (s[at'].toNat : Int)) = false := by rw [bne_u8, decide_eq_true hc]; rfl
        by_cases h2 : k + 1 < s.size
        · have j2 : (k : Int) + 1 < (s.size : Int) := by omega
          have j3 : (0 : Int) ≤ (k : Int) + 1 := by omega
          have j4 : ((k : Int) + 1).toNat = k + 1 := by omega
          have e2 : decide ((s.size : Int) ≤ (k : Int) + 1) = false := by simp; omega
          by_cases hd : s[k + 1] = s[at']
          · have e3 : ((s[k + 1].toNat : Int) != (s[at'].toNat : Int)) = false := by rw [bne_u8, decide_eq_true hd]; rfl
            have hX := quoS_two s k acc _ h2 hc hd
            rw [H.out] at hX
            have HX := Lib.hid hX
            clear hX H hc hd
            go_wp2_with (at_builtin; refine wpList_append_own _ rfl (.tmp 48) (.tmp 50) 72 rfl w.heap.size 5 i0' (.int .u8 0) 1 1 Tryz.underlying72 hi' hz0' hz1' hz2' rfl (by decide) _ acc.length (bcL acc) rfl (O3.out.alloc _) ⟨wr.heap.size, 0, none⟩ 1 1 [.int .u8 (s[at'].toNat : Int)] rfl rfl (World.news_of_block (heap_alloc_new _ _)) (by intro u hu; simp at hu; subst hu; rfl) (by unfold maxLen; omega) (by omega) (by simp; omega) ?_; intro v5 w5 hown5 hgrow5 _; have hb5 := below_app B3.out O3.out hgrow5; have O5 := Kept.mk hown5; have B5 := Kept.mk hb5; clear hown5 hgrow5 hb5)
            go_roundw
            case rel => exact ⟨k + 2, acc ++ [s[at']], by omega, by go_num, by rw [List.length_append, bcL_append]; exact O5.out, by simp; omega, B5.out, HX.out.symm⟩
            case measure => simp [intOf]; omega
          · have e3 : ((s[k + 1].toNat : Int) != (s[at'].toNat : Int)) = true := by rw [bne_u8, decide_eq_false hd]; rfl
            have hX := quoS_stop s k acc _ h2 hc hd
            rw [H.out] at hX
            have HX := Lib.hid hX
            have cv := CV.out
            clear hX H hc hd CV
            go_wp2
            go_ret2
            exact ⟨ret_si HX.out.symm, B3.out⟩
        · have e2 : decide ((s.size : Int) ≤ (k : Int) + 1) = true := by simp; omega
          have hX := quoS_last s k acc _ hlt hc h2
          rw [H.out] at hX
          have HX := Lib.hid hX
          have cv := CV.out
          clear hX H hc h2 CV
          go_wp2
          go_ret2
          exact ⟨ret_si HX.out.symm, B3.out⟩
      · have e1 : ((s[k].toNat : Int) != (s[at'].toNat : Int)) = true := by rw [bne_u8, decide_eq_false hc]; rfl
        have hX := quoS_other _ s k acc hlt hc
        rw [H.out] at hX
        have HX := Lib.hid hX
        clear hX H hc
        go_wp2_with (at_builtin; refine wpList_append_own _ rfl (.tmp 25) (.tmp 29) 72 rfl w.heap.size 5 i0' (.int .u8 0) 1 1 Tryz.underlying72 hi' hz0' hz1' hz2' rfl (by decide) _ acc.length (bcL acc) rfl (O3.out.alloc _) ⟨wr.heap.size, 0, none⟩ 1 1 [.int .u8 (s[k].toNat : Int)] rfl rfl (World.news_of_block (heap_alloc_new _ _)) (by intro u hu; simp at hu; subst hu; rfl) (by unfold maxLen; omega) (by omega) (by simp; omega) ?_; intro v5 w5 hown5 hgrow5 _; have hb5 := below_app B3.out O3.out hgrow5; have O5 := Kept.mk hown5; have B5 := Kept.mk hb5; clear hown5 hgrow5 hb5)
        go_roundw
        case rel => exact ⟨k + 1, acc ++ [s[k]], by omega, by go_num, by rw [List.length_append, bcL_append]; exact O5.out, by simp; omega, B5.out, HX.out.symm⟩
        case measure => simp [intOf]; omega
    · have HX : Hid (T = ([], -1)) := by
        show T = _
        rw [← H.out, quoS_end _ _ _ _ (by rw [HL.out]; exact hlt)]
      clear H
      go_wp2
      go_ret2
      exact ⟨ret_si HX.out.symm, B3.out⟩
end Go.Proofs.YtfamljigcffngaaGreatDoor.Wlx
