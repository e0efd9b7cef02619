/- What the walks of chapter 22 read of memory; numbers read and written. -/
import Derived.Test.YtfamljigcffngaaGreatDoorLexWalksA
import Derived.Test.YtfamljigcffngaaGreatDoorRows
import Derived.Lib.LaidTab
import Derived.Lib.SmallJoins
import Derived.Lib.AppendIntMem
import Derived.Shelf.Strconv.ParseIntPublic10
import Derived.Shelf.Strconv.Itoa4
import Derived.Shelf.Strings.Replace
import Derived.WalkSmall
namespace Go.Proofs.YtfamljigcffngaaGreatDoor.Wlx
open Go Go.RowKit

/-- the name of the table of powers, as the rows list it -/
def powName : String := (Rows.lexApartRow.laid.map (·.1)).getD 2 ""
/-- the signs as cells -/
def signsA : Array Value := (Plx.signsL.map fun x => Value.string ⟨x.toArray⟩).toArray
/-- what the walks read of the package variables -/
structure Env (w : World) : Prop where
  ch : Wch.Env w
  pow : Lib.TabIs Tryz.prog w powName .u64 Lib.pow10Tab
  syn : ∃ te pe, w.cell? ⟨7, 0, none⟩ = some (.iface te pe)
  rng : ∃ te pe, w.cell? ⟨8, 0, none⟩ = some (.iface te pe)
  sgn : ∃ t fr, w.heap[0]? = some (.cells signsA t fr)
  mx : ∃ m : Int, w.cell? ⟨5, 0, none⟩ = some (.int .i64 m)
theorem pow_named : Tryz.prog.globalNamed powName = some 6 := by kernel_rfl
theorem cell_keep {w w' : World} {g i : Nat} {v : Value} (hb : Below w.heap.size w w') (h : w.cell? ⟨g, i, none⟩ = some v) : w'.cell? ⟨g, i, none⟩ = some v := by
  rw [hb.cell (p := ⟨g, i, none⟩) (Wch.cell_lt h)]
  exact h
theorem Env.below {w w' : World} (h : Env w) (hb : Below w.heap.size w w') : Env w' := by
  refine ⟨h.ch.below hb, ?_, ?_, ?_, ?_, ?_⟩
  · exact var?_below hb pow_named (Wch.cell_lt (Lib.TabIs.cell h.pow pow_named 0 (by decide))) h.pow
  · obtain ⟨te, pe, hc⟩ := h.syn
    exact ⟨te, pe, cell_keep hb hc⟩
  · obtain ⟨te, pe, hc⟩ := h.rng
    exact ⟨te, pe, cell_keep hb hc⟩
  · obtain ⟨t, fr, hc⟩ := h.sgn
    exact ⟨t, fr, by rw [hb.block _ (Array.getElem?_eq_some_iff.1 hc).1]; exact hc⟩
  · obtain ⟨m, hc⟩ := h.mx
    exact ⟨m, cell_keep hb hc⟩
theorem format_any (n : Int) (w : World) (h0 : -9223372036854775808 ≤ n) (h1 : n ≤ 9223372036854775807) (ht : Env w) :
    Calls Tryz.prog 28 #[.int .i64 n, .int .i64 10] w fun e w' => e = .returned (.string ⟨(Lib.itoa n).toArray⟩) ∧ Below w.heap.size w w' :=
  (Any.strconv_FormatInt_10 Tryz.laysM173 n h0 h1 w ht.pow).mono fun e w' ⟨he, k, os, hw⟩ => ⟨he, by subst hw; exact Lib.below_grow _ _ (Nat.le_refl _) _ _⟩
/-- what ParseInt hands back: the number and no error; or a number and an error -/
def Parsed (w : World) (r : Lib.NumEnd Int) (e : Ending) (w' : World) : Prop :=
  Below w.heap.size w w' ∧ match r with
  | .ok v => e = .returned (.tuple #[.int .i64 v, .nilIface])
  | _ => ∃ n N, e = .returned (.tuple #[.int .i64 n, .iface 242 (.pointer (some ⟨N, 0, none⟩))])
theorem parse_any (s : ByteArray) (w : World) (hs : s.size ≤ 281474976710656) (ht : Env w) :
    Calls Tryz.prog 76 #[.string s, .int .i64 10, .int .i64 64] w (Parsed w (Lib.parseIntB 64 s.data.toList)) := by
  cases h : Lib.parseIntB 64 s.data.toList with
  | ok v =>
    refine (Any.strconv_ParseInt_10_at64_ok Tryz.laysC174 s (by omega) v h w).mono fun e w' ⟨he, hw⟩ => ⟨?_, he⟩
    rcases hw with rfl | ⟨t, rfl⟩
    · exact Below.refl _ _
    · exact Joins.below_bytesWorld _ _ _ _ (Nat.le_refl _)
  | range =>
    obtain ⟨te, pe, hc⟩ := ht.rng
    exact (Any.strconv_ParseInt_10_at64_range Tryz.laysC174 s hs h _ w hc (.inr ⟨te, pe, rfl⟩)).mono fun e w' ⟨N, he, _, _, hb⟩ => ⟨hb, _, N, he⟩
  | _ =>
    obtain ⟨te, pe, hc⟩ := ht.syn
    exact (Any.strconv_ParseInt_10_at64_syntax Tryz.laysC174 s hs h _ w hc (.inr ⟨te, pe, rfl⟩)).mono fun e w' ⟨N, he, _, _, hb⟩ => ⟨hb, _, N, he⟩
theorem parse_range {l : List UInt8} {v : Int} (h : Lib.parseIntB 64 l = .ok v) : -9223372036854775808 ≤ v ∧ v ≤ 9223372036854775807 := by
  unfold Lib.parseIntB at h
  cases l with
  | nil => cases h
  | cons c r =>
    simp only at h
    split at h
    · cases h
    · cases h
    · rename_i u _
      have p63 : (2 : Nat) ^ (64 - 1) = 9223372036854775808 := by decide
      rw [p63] at h
      split at h
      · cases h
      · split at h
        · cases h
        · rename_i h1 h2
          injection h with h
          subst h
          split <;> omega
end Go.Proofs.YtfamljigcffngaaGreatDoor.Wlx
