/- Words for the walk over the program's fits (chapter 06). -/
import Derived.Test.YtkjodleggfacbaaDoorTreeFold
import Derived.Test.YtkjodleggfacbaaDoorTreeWalksG
import Derived.Test.YtkjodleggfacbaaDoorCharsBlank
import Derived.Test.YtkjodleggfacbaaDoorBeh
import Derived.Test.YtkjodleggfacbaaDoorShelfTree
import Derived.Test.YtkjodleggfacbaaDoorTreePlainB
import Derived.Lib.Index
import Derived.Lib.IndexMore
namespace Go.Proofs.YtkjodleggfacbaaDoor.Wtr
open Go Go.RowKit Go.Proofs.YtkjodleggfacbaaDoor.Kb

/-- the rules of the kinds: named, valued, full; without a parent, under a root, under an element -/
def ruleTab : List Nat := [0, 0, 0, 0, 0, 0, 0, 0, 0, 0, 0, 0, 1, 0, 0, 1, 1, 1, 1, 1, 0, 0, 0, 1, 0, 1, 1, 1, 0, 1, 0, 1, 0, 1, 1, 1, 1, 1, 0, 1, 1, 1]
def Rules (w : World) : Prop := ∀ j x, ruleTab[j]? = some x → w.cell? ⟨0, j, none⟩ = some (.bool (x == 1))
theorem Rules.below {w w' : World} (h : Rules w) (hb : Below w.heap.size w w') : Rules w' := fun j x hx => cell_keep hb (h j x hx)
theorem rule_cell {w w' : World} (h : Rules w) (j x : Nat) (hx : ruleTab[j]? = some x) (v : Bool) (hb : Below w.heap.size w w') (hv : v = (x == 1) := by rfl) : w'.cell? ⟨0, j, none⟩ = some (.bool v) := by
  rw [hv]
  exact h.below hb j x hx
/-- what the walks of chapter 06 read of the package variables -/
def TEnv (w : World) : Prop := Wch.Env w ∧ Rules w ∧ FoldTab w ∧ ∃ m : Int, w.cell? ⟨8, 0, none⟩ = some (.int .i64 m)
theorem TEnv.below {w w' : World} (h : TEnv w) (hb : Below w.heap.size w w') : TEnv w' := by
  obtain ⟨h1, h2, h3, m, h4⟩ := h
  exact ⟨h1.below hb, h2.below hb, h3.below hb, m, cell_keep hb h4⟩
theorem box_at (w : World) (cs : Array Value) (t : TypeId) (o : Obj) (j : Nat) {v : Value} (h : cs[j]? = some v) : ((w.alloc (.cells cs t)).alloc o).cell? ⟨w.heap.size, j, none⟩ = some v := by
  refine cell_keep ((Below.refl _ _).alloc (Nat.le_refl _) o) ?_
  rw [World.cell?_alloc_new]
  exact h
theorem box_at2 (w : World) (cs : Array Value) (t : TypeId) (o : Obj) (j : Nat) {v : Value} (h : cs[j]? = some v) : ((w.alloc o).alloc (.cells cs t)).cell? ⟨w.heap.size + 1, j, none⟩ = some v := by
  have := World.cell?_alloc_new (w.alloc o) cs t j
  rw [World.size_alloc] at this
  rw [this]
  exact h
theorem name_call1 (X : ByteArray) (w : World) (hx : X.size ≤ 9223372036854775807) (hE : Wch.Env w) : Calls Tryd.prog 44 #[.string X] w fun e w' => e = .returned (.bool (Pch.nameL X.data.toList)) ∧ Below w.heap.size w w' := Wch.nametext_any X w hx hE
theorem text_call1 (X : ByteArray) (w : World) (hx : X.size ≤ 9223372036854775807) (hE : Wch.Env w) : Calls Tryd.prog 45 #[.string X] w fun e w' => e = .returned (.bool (Pch.textsL X.data.toList)) ∧ Below w.heap.size w w' := Wch.texts_any X w hx hE
/-- no node from a place on bears the name x -/
def freeFrom (l : List Ptr.Nd) (x : List UInt8) (i k : Nat) : Bool := (List.range' k (i - k)).all fun j => !decide (Ptr.nam l j = x)
theorem freeFrom_step (l : List Ptr.Nd) (x : List UInt8) (i k : Nat) (h : k < i) : freeFrom l x i k = (!decide (Ptr.nam l k = x) && freeFrom l x i (k + 1)) := by
  unfold freeFrom
  rw [show i - k = (i - (k + 1)) + 1 by omega, List.range'_succ, List.all_cons]
theorem freeFrom_end (l : List Ptr.Nd) (x : List UInt8) (i k : Nat) (h : ¬ k < i) : freeFrom l x i k = true := by
  unfold freeFrom
  rw [show i - k = 0 by omega]
  rfl
theorem freeFrom_eq (l : List Ptr.Nd) (x : List UInt8) (i a : Nat) : freeFrom l x i a = Ptr.freeB l x a i := by
  rw [Bool.eq_iff_iff, Ptr.freeB_iff]
  unfold freeFrom
  rw [List.all_eq_true]
  simp only [List.mem_range'_1, Bool.not_eq_true', decide_eq_false_iff_not]
  exact ⟨fun h k hk hki => h k (by omega), fun h k hk => h k (by omega) (by omega)⟩
theorem contains_has2 (a b : UInt8) : ∀ l : List UInt8, Lib.contains l [a, b] = Ptr.has2 a b l
  | [] => by simp [Lib.contains, Lib.index, Ptr.has2]
  | [x] => by simp [Lib.contains, Lib.index, Ptr.has2]
  | x :: y :: r => by
    have ih := contains_has2 a b (y :: r)
    have hge := Lib.index_ge (y :: r) [a, b]
    unfold Lib.contains at ih ⊢
    rw [Ptr.has2, ← ih, Lib.index]
    cases hp : List.isPrefixOf [a, b] (x :: y :: r) with
    | true =>
      simp [List.isPrefixOf] at hp
      simp [hp.1, hp.2]
    | false =>
      have hx : (x == a && y == b) = false := by
        simp [List.isPrefixOf] at hp
        simp
        intro h
        exact fun h2 => hp h.symm h2.symm
      rw [hx, Bool.false_or, if_neg (by simp)]
      generalize Lib.index (y :: r) [a, b] = z at hge ⊢
      by_cases e : z = -1
      · subst e; rfl
      · have e2 : (z == -1) = false := by simpa using e
        rw [e2]
        simp
        omega
theorem suffix_last (c : UInt8) (l : List UInt8) : Lib.hasSuffix l [c] = decide (l.getLast? = some c) := by
  unfold Lib.hasSuffix
  rw [Bool.eq_iff_iff, List.isSuffixOf_iff_suffix, decide_eq_true_eq]
  constructor
  · rintro ⟨t, rfl⟩; simp
  · intro h
    obtain ⟨t, rfl⟩ := List.getLast?_eq_some_iff.1 h
    exact ⟨t, rfl⟩
theorem contains_call (V : ByteArray) (a b : UInt8) (w : World) (hs : V.size ≤ 65536) (hE : TEnv w) : Calls Tryd.prog 47 #[.string V, .string ⟨#[a, b]⟩] w fun e w' => e = .returned (.bool (Ptr.has2 a b V.data.toList)) ∧ w = w' := by
  obtain ⟨_, _, _, m, hm⟩ := hE
  have h := Any.strings_Contains Tryd.lays144 V ⟨#[a, b]⟩ m w (by omega) hm
  rw [show (⟨#[a, b]⟩ : ByteArray).data.toList = [a, b] from rfl, contains_has2] at h
  exact h.mono fun e w' ⟨h1, h2⟩ => ⟨h1, h2.symm⟩
theorem suffix_call (V : ByteArray) (c : UInt8) (w : World) (hs : V.size ≤ 65536) : Calls Tryd.prog 48 #[.string V, .string ⟨#[c]⟩] w fun e w' => e = .returned (.bool (decide (V.data.toList.getLast? = some c))) ∧ w = w' := by
  have h := Any.strings_HasSuffix Tryd.lays100 V ⟨#[c]⟩ w (by omega)
  rw [show (⟨#[c]⟩ : ByteArray).data.toList = [c] from rfl, suffix_last] at h
  exact h.mono fun e w' ⟨h1, h2⟩ => ⟨h1, h2.symm⟩
theorem blank_head1 (V : ByteArray) (x : List UInt8) (h : V.data.toList = x) (hne : x ≠ []) (hs : V.size ≤ 65536) : ∃ B, Ptr.noBlank x = !B ∧ 1 ≤ V.size ∧ ∀ wx, Calls Tryd.prog 50 #[.string (V.extract 0 1)] wx fun e w' => e = .returned (.bool B) ∧ Below wx.heap.size wx w' := by
  have hl : V.data.toList.length = V.size := by rw [Array.length_toList]; rfl
  cases x with
  | nil => exact absurd rfl hne
  | cons c r =>
    refine ⟨Pch.blankC c, rfl, by rw [← hl, h]; simp, fun wx => ?_⟩
    have h1 := Wch.blank_any (V.extract 0 1) wx (by rw [ByteArray.size_extract]; omega)
    rw [Lib.extract_data, h] at h1
    simpa [Pch.blankL] using h1
end Go.Proofs.YtkjodleggfacbaaDoor.Wtr
