/- The walk over the program's Whole. -/
import Derived.Test.YtokphfpjgmmklaaDoorKeyWalksF
import Derived.Test.YtokphfpjgmmklaaDoorShelfKey
import Derived.Test.YtokphfpjgmmklaaDoorRows
import Derived.Lib.SmallJoins
import Derived.Lib.AppendIntMem
import Derived.WalkSmall
import Derived.WalkSpells
import Derived.WalkLawsBesides
namespace Go.Proofs.YtokphfpjgmmklaaDoor.Wk
open Go Go.RowKit Go.Proofs.YtokphfpjgmmklaaDoor.Kb

/-- the name of the table of powers, as the rows list it -/
def powName : String := (Rows.keyIntsRow.laid.map (·.1)).getD 2 ""
/-- what the walks read of the package variables -/
structure Env (w : World) : Prop where
  pow : Lib.TabIs Tryd.prog w powName .u64 Lib.pow10Tab
  syn : ∃ te pe, w.cell? ⟨0, 0, none⟩ = some (.iface te pe)
  rng : ∃ te pe, w.cell? ⟨1, 0, none⟩ = some (.iface te pe)
theorem pow_named : Tryd.prog.globalNamed powName = some 2 := by kernel_rfl
theorem Env.below {w w' : World} (h : Env w) (hb : Below w.heap.size w w') : Env w' := by
  refine ⟨?_, ?_, ?_⟩
  · have h1 := h.pow
    have hlt : 2 < w.heap.size := cell_lt (Lib.TabIs.cell h.pow pow_named 0 (by decide))
    exact var?_below hb pow_named hlt h1
  · obtain ⟨te, pe, hc⟩ := h.syn
    exact ⟨te, pe, by rw [hb.cell (p := ⟨0, 0, none⟩) (cell_lt hc)]; exact hc⟩
  · obtain ⟨te, pe, hc⟩ := h.rng
    exact ⟨te, pe, by rw [hb.cell (p := ⟨1, 0, none⟩) (cell_lt hc)]; exact hc⟩
theorem format_any (n : Int) (w : World) (h0 : -9223372036854775808 ≤ n) (h1 : n ≤ 9223372036854775807) (ht : Env w) :
    Calls Tryd.prog 30 #[.int .i64 n, .int .i64 10] w fun e w' => e = .returned (.string ⟨(Lib.itoa n).toArray⟩) ∧ Below w.heap.size w w' :=
  (Any.strconv_FormatInt_10 Tryd.laysM173 n h0 h1 w ht.pow).mono fun e w' ⟨he, k, os, hw⟩ => ⟨he, by subst hw; exact Lib.below_grow _ _ (Nat.le_refl _) _ _⟩
/-- what ParseInt hands back: the number and no error; or a number and an error -/
def Parsed (w : World) (r : Lib.NumEnd Int) (e : Ending) (w' : World) : Prop :=
  Below w.heap.size w w' ∧ match r with
  | .ok v => e = .returned (.tuple #[.int .i64 v, .nilIface])
  | _ => ∃ n N, e = .returned (.tuple #[.int .i64 n, .iface 95 (.pointer (some ⟨N, 0, none⟩))])
theorem parse_any (s : ByteArray) (w : World) (hs : s.size ≤ 281474976710656) (ht : Env w) :
    Calls Tryd.prog 29 #[.string s, .int .i64 10, .int .i64 64] w (Parsed w (Lib.parseIntB 64 s.data.toList)) := by
  cases h : Lib.parseIntB 64 s.data.toList with
  | ok v =>
    refine (Any.strconv_ParseInt_10_at64_ok Tryd.laysC174 s (by omega) v h w).mono fun e w' ⟨he, hw⟩ => ⟨?_, he⟩
    rcases hw with rfl | ⟨t, rfl⟩
    · exact Below.refl _ _
    · exact Joins.below_bytesWorld _ _ _ _ (Nat.le_refl _)
  | range =>
    obtain ⟨te, pe, hc⟩ := ht.rng
    exact (Any.strconv_ParseInt_10_at64_range Tryd.laysC174 s hs h _ w hc (.inr ⟨te, pe, rfl⟩)).mono fun e w' ⟨N, he, _, _, hb⟩ => ⟨hb, _, N, he⟩
  | _ =>
    obtain ⟨te, pe, hc⟩ := ht.syn
    exact (Any.strconv_ParseInt_10_at64_syntax Tryd.laysC174 s hs h _ w hc (.inr ⟨te, pe, rfl⟩)).mono fun e w' ⟨N, he, _, _, hb⟩ => ⟨hb, _, N, he⟩

/-- the number that a text says, as the program finds it -/
def wholeL (l : List UInt8) : Option Int := match Lib.parseIntB 64 l with
  | .ok v => if Lib.itoa v = l then some v else none
  | _ => none
def wholeN (l : List UInt8) : Int := (wholeL l).getD 0
def wholeB (l : List UInt8) : Bool := (wholeL l).isSome
theorem ret_whole {a c : Int} {x y : Bool} (h : a = c) (h' : x = y) : Ending.returned (.tuple #[.int .i64 a, .bool x]) = .returned (.tuple #[.int .i64 c, .bool y]) := by rw [h, h']
theorem parse_range {l : List UInt8} {v : Int} (h : Lib.parseIntB 64 l = .ok v) : -9223372036854775808 ≤ v ∧ v ≤ 9223372036854775807 := by
  unfold Lib.parseIntB at h
  cases l with
  | nil => cases h
  | cons c r =>
    simp only at h
    split at h
    · cases h
    · cases h
    · rename_i u _
      have p63 : (2 : Nat) ^ (64 - 1) = 9223372036854775808 := by decide
      rw [p63] at h
      split at h
      · cases h
      · split at h
        · cases h
        · rename_i h1 h2
          injection h with h
          subst h
          split <;> omega
theorem whole_any (s : ByteArray) (w : World) (hs : s.size ≤ 281474976710656) (ht : Env w) :
    Calls Tryd.prog 20 #[.string s] w fun e w' => e = .returned (.tuple #[.int .i64 (wholeN s.data.toList), .bool (wholeB s.data.toList)]) ∧ Below w.heap.size w w' := by
  have cP := parse_any s w hs ht
  have HT := Kept.mk ht
  clear ht
  cases h : Lib.parseIntB 64 s.data.toList with
  | ok v =>
    obtain ⟨v0, v1⟩ := parse_range h
    rw [h] at cP
    have HP := Kept.mk cP
    clear cP
    by_cases he : Lib.itoa v = s.data.toList
    · have hN : Kept (wholeN s.data.toList = v ∧ wholeB s.data.toList = true) := ⟨by simp [wholeN, wholeB, wholeL, h, he]⟩
      have hq : (Lib.itoa v == s.toList) = true := by
        rw [ByteArray.toList_eq]
        simpa using he
      clear h he
      go_enter Tryd.func20, Tryd.ntmps20
      go_wp2_with (first
        | (go_at_call 29; refine HP.out.mono ?_; rintro e w1 ⟨hb1, rfl⟩)
        | (go_at_call 30; refine (format_any v _ v0 v1 (HT.out.below (by with_reducible assumption))).mono ?_; rintro e w2 ⟨rfl, hb2⟩))
      go_ret2
      exact ⟨ret_whole hN.out.1.symm hN.out.2.symm, hb1.trans (hb2.mono hb1.size)⟩
    · have hN : Kept (wholeN s.data.toList = 0 ∧ wholeB s.data.toList = false) := ⟨by simp [wholeN, wholeB, wholeL, h, he]⟩
      have hq : (Lib.itoa v == s.toList) = false := by
        rw [ByteArray.toList_eq]
        simpa using he
      clear h he
      go_enter Tryd.func20, Tryd.ntmps20
      go_wp2_with (first
        | (go_at_call 29; refine HP.out.mono ?_; rintro e w1 ⟨hb1, rfl⟩)
        | (go_at_call 30; refine (format_any v _ v0 v1 (HT.out.below (by with_reducible assumption))).mono ?_; rintro e w2 ⟨rfl, hb2⟩))
      go_ret2
      exact ⟨ret_whole hN.out.1.symm hN.out.2.symm, hb1.trans (hb2.mono hb1.size)⟩
  | range =>
    rw [h] at cP
    have HP := Kept.mk cP
    have hN : Kept (wholeN s.data.toList = 0 ∧ wholeB s.data.toList = false) := ⟨by simp [wholeN, wholeB, wholeL, h]⟩
    clear cP h HT
    go_enter Tryd.func20, Tryd.ntmps20
    go_wp2_with (go_at_call 29; refine HP.out.mono ?_; rintro e w1 ⟨hb1, n1, N1, rfl⟩)
    go_ret2
    exact ⟨ret_whole hN.out.1.symm hN.out.2.symm, hb1⟩
  | _ =>
    rw [h] at cP
    have HP := Kept.mk cP
    have hN : Kept (wholeN s.data.toList = 0 ∧ wholeB s.data.toList = false) := ⟨by simp [wholeN, wholeB, wholeL, h]⟩
    clear cP h HT
    go_enter Tryd.func20, Tryd.ntmps20
    go_wp2_with (go_at_call 29; refine HP.out.mono ?_; rintro e w1 ⟨hb1, n1, N1, rfl⟩)
    go_ret2
    exact ⟨ret_whole hN.out.1.symm hN.out.2.symm, hb1⟩
end Go.Proofs.YtokphfpjgmmklaaDoor.Wk
