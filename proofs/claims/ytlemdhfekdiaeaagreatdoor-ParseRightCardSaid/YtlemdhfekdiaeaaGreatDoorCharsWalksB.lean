/- The walks over the tables of characters. -/
import Derived.Test.YtlemdhfekdiaeaaGreatDoorCharsWalksA
import Derived.Deep.LoopGhost
import Derived.BigQuiet
import Derived.Deep.QuietTactic
import Derived.Below
namespace Go.Proofs.YtlemdhfekdiaeaaGreatDoor.Wch
open Go Go.RowKit

/-- a table of spans lies in block g -/
def Spans (t : List (Int × Int)) (g : Nat) (w : World) : Prop :=
  g < w.heap.size ∧ ∀ i p, t[i]? = some p → w.cell? ⟨g, i * 2, none⟩ = some (.int .i32 p.1) ∧ w.cell? ⟨g, i * 2 + 1, none⟩ = some (.int .i32 p.2)
theorem among_any (t : List (Int × Int)) (g : Nat) (r : Int) (w : World) (ht : Spans t g w) (hl : t.length ≤ 1000) :
    Calls Tryz.prog 133 #[.int .i32 r, .slice (some ⟨g, 0, none⟩) t.length t.length] w fun e w' => e = .returned (.bool (Pch.inT t r)) ∧ Below w.heap.size w w' := by
  go_enter Tryz.func133, Tryz.ntmps133
  go_wp2
  go_loopw [9] (fun i wr => ∃ k : Nat, k ≤ t.length ∧ i = .int .i64 k ∧ Below w.heap.size w wr ∧ Hid (Pch.inT (t.drop k) r = Pch.inT t r)) (fun i _ => t.length - (intOf i).toNat)
  case atStart => exact ⟨0, Nat.zero_le _, rfl, Below.refl _ _, rfl⟩
  case round =>
    obtain ⟨k, hk, rfl, hb, H⟩ := hrel
    by_cases hlt : k < t.length
    · obtain ⟨p, hp⟩ : ∃ p, t[k]? = some p := ⟨_, List.getElem?_eq_getElem hlt⟩
      obtain ⟨h1, h2⟩ := ht.2 k p hp
      have hg := ht.1
      rw [← hb.cell (p := ⟨g, k * 2, none⟩) hg] at h1
      rw [← hb.cell (p := ⟨g, k * 2 + 1, none⟩) hg] at h2
      have HT := Lib.hid ht
      have HP := Lib.hid hp
      clear ht hp
      have hd : t.drop k = p :: t.drop (k + 1) := by
        rw [List.drop_eq_getElem_cons hlt]
        congr 1
        rw [List.getElem?_eq_getElem hlt] at HP
        exact Option.some.inj HP.out
      have H2 : Hid ((decide (p.1 ≤ r ∧ r ≤ p.2) || Pch.inT (t.drop (k + 1)) r) = Pch.inT t r) := by
        have h := H.out
        rw [hd, Pch.inT_cons] at h
        exact h
      have hz := hb.size
      clear hd H
      go_wp2
      · go_ret
        exact ⟨ret_bool (by rw [← H2.out, decide_eq_true (p := p.1 ≤ r ∧ r ≤ p.2) ⟨‹_›, ‹_›⟩]; rfl), by go_grown⟩
      all_goals
        go_roundw
        case rel => exact ⟨k + 1, by omega, by go_num, by go_grown, by show _ = _; rw [← H2.out, decide_eq_false (p := p.1 ≤ r ∧ r ≤ p.2) (by omega)]; rfl⟩
        case measure => simp [intOf]; omega
    · go_wp2
      go_ret
      exact ⟨ret_bool (by rw [← H.out, List.drop_eq_nil_of_le (by omega)]; rfl), hb⟩
/-- the two tables of package chars, as the program lays them -/
def Tabs (w : World) : Prop := Spans Pch.startT 4 w ∧ Spans Pch.otherT 5 w
theorem Spans.below {t : List (Int × Int)} {g : Nat} {w w' : World} (h : Spans t g w) (hb : Below w.heap.size w w') : Spans t g w' :=
  ⟨Nat.lt_of_lt_of_le h.1 hb.size, fun i p hp => by rw [hb.cell (p := ⟨g, i * 2, none⟩) h.1, hb.cell (p := ⟨g, i * 2 + 1, none⟩) h.1]; exact h.2 i p hp⟩
theorem Tabs.below {w w' : World} (h : Tabs w) (hb : Below w.heap.size w w') : Tabs w' := ⟨h.1.below hb, h.2.below hb⟩
theorem start_any (r : Int) (w : World) (ht : Tabs w) : Calls Tryz.prog 115 #[.int .i32 r] w fun e w' => e = .returned (.bool (Pch.startB r)) ∧ Below w.heap.size w w' := by
  have HT := Lib.hid ht
  clear ht
  go_enter Tryz.func115, Tryz.ntmps115
  go_wp2_with (go_at_call 133; refine (among_any Pch.startT 4 r _ HT.out.1 (by decide)).mono ?_; rintro e w' ⟨rfl, hb⟩)
  go_ret
  exact ⟨rfl, hb⟩
theorem name_any (r : Int) (w : World) (ht : Tabs w) : Calls Tryz.prog 116 #[.int .i32 r] w fun e w' => e = .returned (.bool (Pch.nameB r)) ∧ Below w.heap.size w w' := by
  have hn : Pch.nameB r = (Pch.startB r || Pch.inT Pch.otherT r) := rfl
  rw [hn]
  have HT := Lib.hid ht
  clear ht hn
  generalize hS : Pch.startB r = S
  have HS := Lib.hid hS
  clear hS
  cases S
  · go_enter Tryz.func116, Tryz.ntmps116
    go_wp2_with (first | (go_at_call 115; refine (start_any r _ HT.out).mono ?_; rw [HS.out]; rintro e w1 ⟨rfl, hb1⟩) | (go_at_call 133; refine (among_any Pch.otherT 5 r _ (HT.out.below (by assumption)).2 (by decide)).mono ?_; rintro e w2 ⟨rfl, hb2⟩))
    go_ret
    exact ⟨rfl, hb1.trans (hb2.mono hb1.size)⟩
  · go_enter Tryz.func116, Tryz.ntmps116
    go_wp2_with (go_at_call 115; refine (start_any r _ HT.out).mono ?_; rw [HS.out]; rintro e w' ⟨rfl, hb⟩)
    go_ret
    exact ⟨rfl, hb⟩
end Go.Proofs.YtlemdhfekdiaeaaGreatDoor.Wch
