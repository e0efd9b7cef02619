/- The walks over the program's number and fates' parts (chapter 31). -/
import Derived.Test.YtakccaldcolbmaaGreatDoorLinesS
import Derived.Test.YtakccaldcolbmaaGreatDoorLinesRefW
import Derived.Test.YtakccaldcolbmaaGreatDoorShelfLines
import Derived.Lib.SmallJoins
import Derived.Lib.AppendIntMem
import Derived.Lib.AtoiBound
import Derived.WalkSmall
import Derived.WalkSpells
import Derived.WalkLawsBesides
namespace Go.Proofs.YtakccaldcolbmaaGreatDoor.Wln
open Go Go.RowKit Go.Proofs.YtakccaldcolbmaaGreatDoor.Kb

/-- the verbs, cell by cell: word, kind, number, whether it has a text -/
def verbCells : List Value := [.string ⟨#[108, 111, 97, 100]⟩, .int .u8 1, .int .i64 0, .bool true, .string ⟨#[113, 117, 101, 114, 121]⟩, .int .u8 2, .int .i64 1, .bool true, .string ⟨#[115, 99, 97, 110]⟩, .int .u8 2, .int .i64 0, .bool true,
  .string ⟨#[117, 112, 100, 97, 116, 101]⟩, .int .u8 3, .int .i64 0, .bool true, .string ⟨#[112, 111, 105, 110, 116]⟩, .int .u8 4, .int .i64 0, .bool false, .string ⟨#[100, 117, 109, 112]⟩, .int .u8 5, .int .i64 0, .bool false, .string ⟨#[111, 112, 101, 110]⟩, .int .u8 7, .int .i64 0, .bool false]
def kindCells : List Value := [.string ⟨#[]⟩, .string ⟨#[114, 111, 111, 116]⟩, .string ⟨#[101, 108, 101, 109, 101, 110, 116]⟩, .string ⟨#[97, 116, 116, 114, 105, 98, 117, 116, 101]⟩, .string ⟨#[116, 101, 120, 116]⟩, .string ⟨#[99, 111, 109, 109, 101, 110, 116]⟩, .string ⟨#[105, 110, 115, 116, 114, 117, 99, 116, 105, 111, 110]⟩]
/-- what the walks read of the package variables -/
structure LEnv (w : World) : Prop where
  pow : Lib.TabIs Tryz.prog w "internal/strconv.uint64pow10" .u64 Lib.pow10Tab
  syn : ∃ te pe, w.cell? ⟨6, 0, none⟩ = some (.iface te pe)
  rng : ∃ te pe, w.cell? ⟨7, 0, none⟩ = some (.iface te pe)
  verbs : ∃ ty fr, w.heap[(1 : Nat)]? = some (.cells verbCells.toArray ty fr)
  kinds : ∃ ty fr, w.heap[(0 : Nat)]? = some (.cells kindCells.toArray ty fr)
  mx : ∃ m : Int, w.cell? ⟨2, 0, none⟩ = some (.int .i64 m)
theorem pow_named : Tryz.prog.globalNamed "internal/strconv.uint64pow10" = some 3 := by kernel_rfl
theorem LEnv.below {w w' : World} (h : LEnv w) (hb : Below w.heap.size w w') : LEnv w' := by
  refine ⟨?_, ?_, ?_, ?_, ?_, ?_⟩
  · have h1 := h.pow
    have hlt : 3 < w.heap.size := cell_lt (Lib.TabIs.cell h.pow pow_named 0 (by decide))
    exact var?_below hb pow_named hlt h1
  · obtain ⟨te, pe, hc⟩ := h.syn
    exact ⟨te, pe, by rw [hb.cell (p := ⟨6, 0, none⟩) (cell_lt hc)]; exact hc⟩
  · obtain ⟨te, pe, hc⟩ := h.rng
    exact ⟨te, pe, by rw [hb.cell (p := ⟨7, 0, none⟩) (cell_lt hc)]; exact hc⟩
  · obtain ⟨ty, fr, hc⟩ := h.verbs
    exact ⟨ty, fr, by rw [hb.block _ (Array.getElem?_eq_some_iff.1 hc).1]; exact hc⟩
  · obtain ⟨ty, fr, hc⟩ := h.kinds
    exact ⟨ty, fr, by rw [hb.block _ (Array.getElem?_eq_some_iff.1 hc).1]; exact hc⟩
  · obtain ⟨m, hc⟩ := h.mx
    exact ⟨m, by rw [hb.cell (p := ⟨2, 0, none⟩) (cell_lt hc)]; exact hc⟩
theorem itoa_any (n : Int) (w : World) (h0 : -9223372036854775808 ≤ n) (h1 : n ≤ 9223372036854775807) (ht : LEnv w) :
    Calls Tryz.prog 125 #[.int .i64 n] w fun e w' => e = .returned (.string ⟨(Lib.itoa n).toArray⟩) ∧ Below w.heap.size w w' :=
  (Any.strconv_Itoa Tryz.laysM171 n h0 h1 w ht.pow).mono fun e w' ⟨he, k, os, hw⟩ => ⟨he, by subst hw; exact Lib.below_grow _ _ (Nat.le_refl _) _ _⟩
/-- what Atoi hands back: the number and no error; or a number and an error -/
def Parsed (w : World) (r : Lib.NumEnd Int) (e : Ending) (w' : World) : Prop :=
  Below w.heap.size w w' ∧ match r with
  | .ok v => e = .returned (.tuple #[.int .i64 v, .nilIface])
  | _ => ∃ n N, e = .returned (.tuple #[.int .i64 n, .iface 238 (.pointer (some ⟨N, 0, none⟩))])
theorem atoi_any (s : ByteArray) (w : World) (hs : s.size ≤ 281474976710656) (ht : LEnv w) :
    Calls Tryz.prog 124 #[.string s] w (Parsed w (Lib.atoiAll s.data.toList)) := by
  cases h : Lib.atoiAll s.data.toList with
  | ok v =>
    refine (Any.strconv_Atoi_ok Tryz.laysC172 s (by omega) v h w).mono fun e w' ⟨he, hw⟩ => ⟨?_, he⟩
    rcases hw with rfl | ⟨t, rfl⟩
    · exact Below.refl _ _
    · exact Joins.below_bytesWorld _ _ _ _ (Nat.le_refl _)
  | range =>
    obtain ⟨te, pe, hc⟩ := ht.rng
    exact (Any.strconv_Atoi_range Tryz.laysC172 s hs h _ w hc (.inr ⟨te, pe, rfl⟩)).mono fun e w' ⟨N, he, _, _, hb⟩ => ⟨hb, _, N, he⟩
  | _ =>
    obtain ⟨te, pe, hc⟩ := ht.syn
    exact (Any.strconv_Atoi_syntax Tryz.laysC172 s hs h _ w hc (.inr ⟨te, pe, rfl⟩)).mono fun e w' ⟨N, he, _, _, hb⟩ => ⟨hb, _, N, he⟩
/-- what number hands back -/
def NumIs (w : World) (r : Option Int) (e : Ending) (w' : World) : Prop :=
  Below w.heap.size w w' ∧ match r with
  | some v => e = .returned (.tuple #[.int .i64 v, .bool true])
  | none => ∃ n, e = .returned (.tuple #[.int .i64 n, .bool false])
theorem number_any (s : ByteArray) (w : World) (hs : s.size ≤ 281474976710656) (ht : LEnv w) :
    Calls Tryz.prog 105 #[.string s] w (NumIs w (Wk.wholeL s.data.toList)) := by
  have cP := atoi_any s w hs ht
  have HT := Kept.mk ht
  clear ht
  cases h : Lib.atoiAll s.data.toList with
  | ok v =>
    have hv : -9223372036854775808 ≤ v ∧ v ≤ 9223372036854775807 := Wk.parse_range (by rw [Lib.parseIntB_64]; exact h)
    obtain ⟨v0, v1⟩ := hv
    rw [h] at cP
    have HP := Kept.mk cP
    clear cP
    by_cases he : Lib.itoa v = s.data.toList
    · have hN : Wk.wholeL s.data.toList = some v := by rw [Pln.whole_atoi, h]; simp only [he, if_true]
      rw [hN]
      have hq : (Lib.itoa v == s.toList) = true := by
        rw [ByteArray.toList_eq]
        simpa using he
      clear h he hN
      go_enter Tryz.func105, Tryz.ntmps105
      go_wp2_with (first
        | (go_at_call 124; refine HP.out.mono ?_; rintro e w1 ⟨hb1, rfl⟩)
        | (go_at_call 125; refine (itoa_any v _ v0 v1 (HT.out.below (by with_reducible assumption))).mono ?_; rintro e w2 ⟨rfl, hb2⟩))
      go_ret2
      exact ⟨hb1.trans (hb2.mono hb1.size), rfl⟩
    · have hN : Wk.wholeL s.data.toList = none := by rw [Pln.whole_atoi, h]; simp only [he, if_false]
      rw [hN]
      have hq : (Lib.itoa v == s.toList) = false := by
        rw [ByteArray.toList_eq]
        simpa using he
      clear h he hN
      go_enter Tryz.func105, Tryz.ntmps105
      go_wp2_with (first
        | (go_at_call 124; refine HP.out.mono ?_; rintro e w1 ⟨hb1, rfl⟩)
        | (go_at_call 125; refine (itoa_any v _ v0 v1 (HT.out.below (by with_reducible assumption))).mono ?_; rintro e w2 ⟨rfl, hb2⟩))
      go_ret2
      exact ⟨hb1.trans (hb2.mono hb1.size), _, rfl⟩
  | range =>
    rw [h] at cP
    have HP := Kept.mk cP
    have hN : Wk.wholeL s.data.toList = none := by rw [Pln.whole_atoi, h]
    rw [hN]
    clear cP h HT hN
    go_enter Tryz.func105, Tryz.ntmps105
    go_wp2_with (go_at_call 124; refine HP.out.mono ?_; rintro e w1 ⟨hb1, n1, N1, rfl⟩)
    go_ret2
    exact ⟨hb1, _, rfl⟩
  | _ =>
    rw [h] at cP
    have HP := Kept.mk cP
    have hN : Wk.wholeL s.data.toList = none := by rw [Pln.whole_atoi, h]
    rw [hN]
    clear cP h HT hN
    go_enter Tryz.func105, Tryz.ntmps105
    go_wp2_with (go_at_call 124; refine HP.out.mono ?_; rintro e w1 ⟨hb1, n1, N1, rfl⟩)
    go_ret2
    exact ⟨hb1, _, rfl⟩
end Go.Proofs.YtakccaldcolbmaaGreatDoor.Wln
