/- The walks over the document's Spell (chapter 22), kind by kind. -/
import Derived.Test.YtfamljigcffngaaDoorLexRefA
namespace Go.Proofs.YtfamljigcffngaaDoor.Wlx
open Go Go.RowKit Go.Proofs.YtfamljigcffngaaDoor.Wch

theorem box_below (w : World) (o : Obj) : Below w.heap.size w (w.alloc o) := (Below.refl _ _).alloc (Nat.le_refl _) o
theorem ref_num (k : Int) (x : ByteArray) (N A : Int) (w : World) (hk : (k != 2) = true) (hN : (N != 0) = true) :
    Calls Tryd.prog 8 #[.agg #[.int .u8 k, .string x, .int .i64 N, .int .i64 A]] w fun e w' => e = .returned (.tuple #[.string ⟨#[]⟩, .bool false]) ∧ Below w.heap.size w w' := by
  go_enter Tryd.func8, Tryd.ntmps8
  go_wp2
  go_ret2
  exact ⟨rfl, box_below _ _⟩
theorem ref_text0 (x : ByteArray) (N A : Int) (w : World) (hN : (N != 0) = false) (hx : x.toList.isEmpty = false) :
    Calls Tryd.prog 8 #[.agg #[.int .u8 0, .string x, .int .i64 N, .int .i64 A]] w fun e w' => e = .returned (.tuple #[.string ⟨#[]⟩, .bool false]) ∧ Below w.heap.size w w' := by
  go_enter Tryd.func8, Tryd.ntmps8
  go_wp2
  go_ret2
  exact ⟨rfl, box_below _ _⟩
theorem ref_text2 (x : ByteArray) (N A : Int) (w : World) (hx : x.toList.isEmpty = false) :
    Calls Tryd.prog 8 #[.agg #[.int .u8 2, .string x, .int .i64 N, .int .i64 A]] w fun e w' => e = .returned (.tuple #[.string ⟨#[]⟩, .bool false]) ∧ Below w.heap.size w w' := by
  go_enter Tryd.func8, Tryd.ntmps8
  go_wp2
  go_ret2
  exact ⟨rfl, box_below _ _⟩
theorem ref_0 (x : ByteArray) (N A : Int) (w : World) (hN : (N != 0) = false) (hx : x.toList = []) :
    Calls Tryd.prog 8 #[.agg #[.int .u8 0, .string x, .int .i64 N, .int .i64 A]] w fun e w' => e = .returned (.tuple #[.string ⟨#[]⟩, .bool true]) ∧ Below w.heap.size w w' := by
  go_enter Tryd.func8, Tryd.ntmps8
  go_wp2
  go_ret2
  exact ⟨rfl, box_below _ _⟩
theorem ref_1 (x : ByteArray) (N A : Int) (w : World) (hxs : x.size ≤ 100000) (hN : (N != 0) = false) (nm : Bool) (hnm : Pch.nameL x.data.toList = nm) :
    Calls Tryd.prog 8 #[.agg #[.int .u8 1, .string x, .int .i64 N, .int .i64 A]] w fun e w' => e = .returned (.tuple #[.string (if nm = true then x else ⟨#[]⟩), .bool nm]) ∧ Below w.heap.size w w' := by
  have cN := fun wx => refNametext_any x wx (by omega)
  rw [hnm] at cN
  have CN := Kept.mk cN
  clear cN hnm
  cases nm
  all_goals
    go_enter Tryd.func8, Tryd.ntmps8
    go_wp2_with (fail)
    refine (CN.out _).mono ?_; rintro e w2 ⟨rfl, rfl⟩
    go_wp2_with (fail)
    go_ret2
    exact ⟨rfl, box_below _ _⟩
theorem ref_4 (x : ByteArray) (N A : Int) (w : World) (hxs : x.size ≤ 100000) (hN : (N != 0) = false) (nm : Bool) (hnm : Pch.nameL x.data.toList = nm) :
    Calls Tryd.prog 8 #[.agg #[.int .u8 4, .string x, .int .i64 N, .int .i64 A]] w fun e w' => e = .returned (.tuple #[.string (if nm = true then (⟨#[36]⟩ : ByteArray) ++ x else ⟨#[]⟩), .bool nm]) ∧ Below w.heap.size w w' := by
  have cN := fun wx => refNametext_any x wx (by omega)
  rw [hnm] at cN
  have CN := Kept.mk cN
  clear cN hnm
  cases nm
  all_goals
    go_enter Tryd.func8, Tryd.ntmps8
    go_wp2_with (fail)
    refine (CN.out _).mono ?_; rintro e w2 ⟨rfl, rfl⟩
    go_wp2_with (fail)
    go_ret2
    exact ⟨rfl, box_below _ _⟩
theorem ref_2n (x : ByteArray) (N A : Int) (w : World) (hx : x.toList = []) (hN : N < 0) :
    Calls Tryd.prog 8 #[.agg #[.int .u8 2, .string x, .int .i64 N, .int .i64 A]] w fun e w' => e = .returned (.tuple #[.string ⟨#[]⟩, .bool false]) ∧ Below w.heap.size w w' := by
  go_enter Tryd.func8, Tryd.ntmps8
  go_wp2
  go_ret2
  exact ⟨rfl, box_below _ _⟩
theorem ref_2p (x : ByteArray) (N A : Int) (w : World) (hx : x.toList = []) (hN : 0 ≤ N) (h1 : N ≤ 9223372036854775807) (F : ByteArray) (hF : F = ⟨(Lib.itoa N).toArray⟩) :
    Calls Tryd.prog 8 #[.agg #[.int .u8 2, .string x, .int .i64 N, .int .i64 A]] w fun e w' => e = .returned (.tuple #[.string F, .bool true]) ∧ Below w.heap.size w w' := by
  have cD := fun wx => digits_all N wx hN h1
  rw [← hF] at cD
  have CD := Kept.mk cD
  clear cD hF h1
  go_enter Tryd.func8, Tryd.ntmps8
  go_wp2_with (fail)
  refine (CD.out _).mono ?_; rintro e w2 ⟨rfl, hb⟩
  have g := Kept.mk (below_any (box_below _ _) hb)
  go_wp2_with (fail)
  go_ret2
  exact ⟨rfl, g.out⟩
theorem ref_6 (k : Int) (x : ByteArray) (N A : Int) (w : World) (hN : (N != 0) = false) (h0 : (k == 0) = false) (h1 : (k == 1) = false) (h2 : (k == 2) = false) (h2' : (k != 2) = true) (h3 : (k == 3) = false) (h4 : (k == 4) = false) (h5 : (k == 5) = false) :
    Calls Tryd.prog 8 #[.agg #[.int .u8 k, .string x, .int .i64 N, .int .i64 A]] w fun e w' => e = .returned (.tuple #[.string ⟨#[]⟩, .bool false]) ∧ Below w.heap.size w w' := by
  go_enter Tryd.func8, Tryd.ntmps8
  go_wp2
  go_ret2
  exact ⟨rfl, box_below _ _⟩
theorem ref_3n (x : ByteArray) (N A : Int) (w : World) (hxs : x.size ≤ 100000) (hN : (N != 0) = false) (htx : Pch.textsL x.data.toList = false) :
    Calls Tryd.prog 8 #[.agg #[.int .u8 3, .string x, .int .i64 N, .int .i64 A]] w fun e w' => e = .returned (.tuple #[.string ⟨#[]⟩, .bool false]) ∧ Below w.heap.size w w' := by
  have cN := fun wx => refTexts_any x wx (by omega)
  rw [htx] at cN
  have CN := Kept.mk cN
  clear cN htx
  go_enter Tryd.func8, Tryd.ntmps8
  go_wp2_with (fail)
  refine (CN.out _).mono ?_; rintro e w2 ⟨rfl, rfl⟩
  go_wp2_with (fail)
  go_ret2
  exact ⟨rfl, box_below _ _⟩
end Go.Proofs.YtfamljigcffngaaDoor.Wlx
