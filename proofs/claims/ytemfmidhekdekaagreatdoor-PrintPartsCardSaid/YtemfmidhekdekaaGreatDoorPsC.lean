/- Joined texts: ParseK, ParseA, ParseB, ParseS, ParseC, ParseD, ParseE, ParseF. -/
import Derived.Test.YtemfmidhekdekaaGreatDoorPsB
import Derived.Test.YtemfmidhekdekaaGreatDoorPsA
import Derived.Test.YtemfmidhekdekaaGreatDoorShelfParse
import Derived.Shelf.Unicode.DecodeAny
import Derived.Lib.IndexBytes
import Derived.WalkLawsBesides
import Derived.BigQuiet
import Derived.Laws.RangeAny
import Derived.LoopN
import Derived.Deep.LoopGhost
import Derived.Lib.IndexLaws
import Derived.Lib.Replace
import Derived.Lib.CountLaws
import Derived.Lib.ReplaceLaws
import Derived.Lib.IndexMore
namespace Go.Proofs.YtemfmidhekdekaaGreatDoor.Wps
open Go Go.RowKit Go.Proofs.YtemfmidhekdekaaGreatDoor.Kb Go.Proofs.YtemfmidhekdekaaGreatDoor.Wch

/-- the parser lies in block b; it goes through s, stands at k; x: the rest of its cells -/
def Row (b : Nat) (s : ByteArray) (k : Nat) (x : List Value) (w : World) : Prop := w.heap[b]? = some (.cells (.string s :: .int .i64 (k : Int) :: x).toArray 54 (0, 0))
section
variable {b k : Nat} {s : ByteArray} {x : List Value} {w w' : World}
theorem Row.lt (h : Row b s k x w) : b < w.heap.size := (Array.getElem?_eq_some_iff.1 h).1
theorem Row.c0 (h : Row b s k x w) : w.cell? ⟨b, 0, none⟩ = some (.string s) := by rw [cell_of_row w b _ _ _ _ h]; rfl
theorem Row.c1 (h : Row b s k x w) : w.cell? ⟨b, 1, none⟩ = some (.int .i64 (k : Int)) := by rw [cell_of_row w b _ _ _ _ h]; rfl
theorem Row.unf (h : Row b s k x w) (i : Nat) : w.frozen? ⟨b, i, none⟩ = false := Joins.unfrozen_of_block h _
theorem Row.drew (h : Row b s k x w) : Row b s k x w.drew := h
theorem Row.set (h : Row b s k x w) (k' : Nat) : Row b s k' x (w.setCell ⟨b, 1, none⟩ (.int .i64 (k' : Int))) := by
  unfold Row
  rw [Joins.block_setCell h]
  congr 2
theorem Row.below (h : Row b s k x w) (hb : Below w.heap.size w w') : Row b s k x w' := (hb.block b h.lt).trans h
end
/-- what the walks read of the package variables, as it stood when there were B blocks -/
structure Ev (w : World) : Prop where
  env : Env w
  mx : ∃ m : Int, w.cell? ⟨1, 0, none⟩ = some (.int .i64 m)
  fold : Wtr.FoldTab w
def EvB (B : Nat) (w : World) : Prop := ∃ w0, w0.heap.size = B ∧ Below B w0 w ∧ Ev w0
theorem Ev.below {w w' : World} (h : Ev w) (hb : Below w.heap.size w w') : Ev w' := ⟨h.env.below hb, by obtain ⟨m, hm⟩ := h.mx; exact ⟨m, by rw [hb.cell (p := ⟨1, 0, none⟩) (Kb.cell_lt hm)]; exact hm⟩, h.fold.below hb⟩
theorem EvB.ev {B : Nat} {w : World} (h : EvB B w) : Ev w := by
  obtain ⟨w0, rfl, hb, he⟩ := h
  exact he.below hb
theorem EvB.below {B : Nat} {w w' : World} (h : EvB B w) (hb : Below B w w') : EvB B w' := by
  obtain ⟨w0, hs, hb0, he⟩ := h
  exact ⟨w0, hs, hb0.trans hb, he⟩
theorem EvB.le {B : Nat} {w : World} (h : EvB B w) : B ≤ w.heap.size := by
  obtain ⟨w0, rfl, hb, _⟩ := h
  exact hb.size
theorem EvB.grown {B b : Nat} {w w' : World} (h : EvB B w) (hB : B ≤ b) (hg : w.grownBy w' (some b)) : EvB B w' :=
  h.below (Below.grown (Below.refl _ _) hg h.le (fun k hk => by cases hk; exact hB))
theorem grown_of_below {w w' : World} (h : Below w.heap.size w w') (row : Option Nat) : w.grownBy w' row := ⟨h.os, h.tape, h.output, h.size, fun j hj _ => h.block j hj⟩
theorem grown_set {w w' : World} {b : Nat} (h : w.grownBy w' (some b)) (i : Nat) (u : Value) : w.grownBy (w'.setCell ⟨b, i, none⟩ u) (some b) :=
  ⟨h.os, h.tape, h.output, by simpa using h.size, fun j hj hne => (Below.heap_setCell w' _ u j (fun e => hne (by rw [e]))).trans (h.block j hj hne)⟩
theorem decode_cut (s : ByteArray) (pos : Nat) (h : pos < s.size) : Lib.decodeGo (s.extract pos s.size) = Lib.decodeL (s.data.toList.drop pos) := by
  have hz : (s.extract pos s.size).size ≠ 0 := by
    have := congrArg List.length (Lib.extract_to_end s pos)
    rw [size_len, List.length_drop, size_len] at this
    omega
  unfold Lib.decodeGo
  rw [if_neg hz, ← Lib.decodeL_drop, List.drop_zero, Lib.extract_to_end]
theorem decode_call (s : ByteArray) (pos : Nat) (h : pos < s.size) (w : World) (ht : Env w) :
    Calls Tryz.prog 64 #[.string (s.extract pos s.size)] w fun e w' => e = .returned (.tuple #[.int .i32 (Lib.decodeL (s.data.toList.drop pos)).1, .int .i64 (Lib.decodeL (s.data.toList.drop pos)).2]) ∧ Below w.heap.size w w' := by
  have h1 := Any.utf8_DecodeRuneInString Tryz.lays197 (s.extract pos s.size) w ht.2
  rw [decode_cut s pos h] at h1
  exact h1
theorem ret_i32 {a b : Int} (h : a = b) : Ending.returned (.int .i32 a) = .returned (.int .i32 b) := by rw [h]
theorem peek_end (s : ByteArray) : Ppa.peek (s.data.toList.drop s.size) = -1 := by
  rw [List.drop_eq_nil_of_le (by rw [size_len]; exact Nat.le_refl _)]
  rfl
theorem peek_at (s : ByteArray) (k : Nat) (h : k < s.size) : Ppa.peek (s.data.toList.drop k) = ((Lib.decodeL (s.data.toList.drop k)).1 : Int) := by
  unfold Ppa.peek
  rw [if_neg]
  intro e
  have := congrArg List.length e
  rw [List.length_drop, size_len] at this
  simp at this
  omega
/-- a world behind w, in which the parser and the tables stand as in w -/
theorem next_row {b k : Nat} {s : ByteArray} {x : List Value} {w w' : World} (h : Row b s k x w ∧ Env w) (hb : Below w.heap.size w w') : Row b s k x w' ∧ Env w' := ⟨h.1.below hb, h.2.below hb⟩
set_option maxRecDepth 100000 in
set_option maxHeartbeats 2000000 in
theorem peek_any {b k : Nat} {s : ByteArray} {x : List Value} {w : World} (hk : k ≤ s.size) (h : Row b s k x w) (he : Env w) :
    Calls Tryz.prog 67 #[.pointer (some ⟨b, 0, none⟩)] w fun e w' => e = .returned (.int .i32 (Ppa.peek (s.data.toList.drop k))) ∧ Below w.heap.size w w' := by
  have i0 : (0 : Int) ≤ (k : Int) := by omega
  have i1 : (k : Int) ≤ (s.size : Int) := by omega
  have bx0 := beh_cell h.c0
  have bx1 := beh_cell h.c1
  have HW : Kept (Row b s k x w ∧ Env w) := ⟨h, he⟩
  have hp1 := fun h : k < s.size => peek_at s k h
  have hp2 : k = s.size → Ppa.peek (s.data.toList.drop k) = -1 := fun h => by subst h; exact peek_end s
  generalize Ppa.peek (s.data.toList.drop k) = P at hp1 hp2
  have HP1 := Kept.mk hp1
  have HP2 := Kept.mk hp2
  clear h he hp1 hp2
  go_enter Tryz.func67, Tryz.ntmps67
  go_wp2
  refine wp_region_beh (by kernel_rfl) (by kernel_rfl) ?_
  repeat
    (refine Qw_step (fun K hK => ?_)
     go_simp
     first
       | (refine hK _ ?_; clear hK K)
       | (apply Exists.intro
          refine ⟨fun _ => ?_, hK _ ?_⟩
          (fail)
          clear hK K))
  refine Qw_nil ?_
  rintro w5 ⟨⟨_, hb5⟩, rfl⟩
  clear bx0 bx1
  have H5 := Kept.mk (next_row HW.out hb5)
  have B5 := Kept.mk hb5
  clear hb5 HW
  by_cases hlt : k < s.size
  · have HP := Kept.mk (HP1.out hlt)
    have hne : ((k : Int) == (s.size : Int)) = false := by simp; omega
    have bx0 := beh_cell H5.out.1.c0
    have bx1 := beh_cell H5.out.1.c1
    have CD := Kept.mk (fun (y : Beh w5) => decode_call s k hlt y.fin (H5.out.2.below y.ok))
    clear HP1 HP2
    go_wp2
    refine wp_region_beh (by kernel_rfl) (by kernel_rfl) ?_
    repeat
      (refine Qw_step (fun K hK => ?_)
       go_simp
       first
         | (refine hK _ ?_; clear hK K)
         | (apply Exists.intro
            refine ⟨fun _ => ?_, hK _ ?_⟩
            (go_at_call 64; exact Calls.beh_of (CD.out _))
            clear hK K))
    refine Qw_nil ?_
    rintro w6 ⟨⟨_, hb6⟩, rfl⟩
    have B6 := Kept.mk hb6
    clear hb6 bx0 bx1
    go_wp2
    go_ret
    exact ⟨ret_i32 HP.out.symm, B5.out.trans (B6.out.mono B5.out.size)⟩
  · obtain rfl : k = s.size := by omega
    have HP := Kept.mk (HP2.out rfl)
    clear HP1 HP2
    go_wp2
    go_ret
    exact ⟨ret_i32 HP.out.symm, B5.out⟩
theorem fits_at (s : ByteArray) (k : Nat) (h : k < s.size) : k + (Lib.decodeL (s.data.toList.drop k)).2 ≤ s.size := by
  have hl : (s.data.toList.drop k).length = s.size - k := by rw [List.length_drop, size_len]
  have := Lib.decodeL_le (s.data.toList.drop k) (by intro e; rw [e] at hl; simp at hl; omega)
  omega
set_option maxRecDepth 100000 in
set_option maxHeartbeats 2000000 in
theorem next_any {b k : Nat} {s : ByteArray} {x : List Value} {w : World} (hk : k < s.size) (hs : s.size ≤ 65536) (h : Row b s k x w) (he : Env w) :
    Calls Tryz.prog 72 #[.pointer (some ⟨b, 0, none⟩)] w fun e w' => e = .returned (.int .i32 (Lib.decodeL (s.data.toList.drop k)).1) ∧ Row b s (k + (Lib.decodeL (s.data.toList.drop k)).2) x w' ∧ w.grownBy w' (some b) := by
  have i0 : (0 : Int) ≤ (k : Int) := by omega
  have i1 : (k : Int) ≤ (s.size : Int) := by omega
  have hw := fits_at s k hk
  have bx0 := beh_cell h.c0
  have bx1 := beh_cell h.c1
  have HW : Kept (Row b s k x w ∧ Env w) := ⟨h, he⟩
  have CD := Kept.mk (fun (y : Beh w) => decode_call s k hk y.fin (he.below y.ok))
  clear h he
  generalize hD : Lib.decodeL (s.data.toList.drop k) = D at CD hw
  clear hD
  have i2 : (0 : Int) ≤ (D.2 : Int) := by omega
  have i3 : (D.2 : Int) ≤ 65536 := by omega
  have i4 : (k : Int) ≤ 65536 := by omega
  go_enter Tryz.func72, Tryz.ntmps72
  go_wp2
  refine wp_region_beh (by kernel_rfl) (by kernel_rfl) ?_
  repeat
    (refine Qw_step (fun K hK => ?_)
     go_simp
     first
       | (refine hK _ ?_; clear hK K)
       | (apply Exists.intro
          refine ⟨fun _ => ?_, hK _ ?_⟩
          (go_at_call 64; exact Calls.beh_of (CD.out _))
          clear hK K))
  refine Qw_nil ?_
  rintro w5 ⟨⟨_, hb5⟩, rfl⟩
  clear bx0 bx1
  have H5 := Kept.mk (next_row HW.out hb5)
  have B5 := Kept.mk hb5
  have c1 := H5.out.1.c1
  have f1 := H5.out.1.unf 1
  clear hb5
  go_wp2
  go_ret
  exact ⟨rfl, by have h := H5.out.1.set (k + D.2); rw [show ((k + D.2 : Nat) : Int) = (k : Int) + (D.2 : Int) by omega] at h; exact h, grown_set (grown_of_below B5.out _) 1 _⟩
/-- where the parser gives up -/
def Gone (k : Nat) (e : Ending) : Prop := e = .panicked [{ v := .iface 95 (.int .i64 (k : Int)), recovered := false }]
set_option maxRecDepth 100000 in
theorem no_any {b k : Nat} {s : ByteArray} {x : List Value} {w : World} (h : Row b s k x w) :
    Calls Tryz.prog 61 #[.pointer (some ⟨b, 0, none⟩)] w fun e w' => Gone k e ∧ w' = w := by
  have c1 := h.c1
  clear h
  go_enter Tryz.func61, Tryz.ntmps61
  go_wp2
  exact ⟨rfl, rfl, rfl⟩
/-- the parser lies in b, above B; it goes through s, r is what is left; x: the rest of its cells -/
structure Pa (B b : Nat) (s : ByteArray) (x : List Value) (r : Ppa.Bs) (w : World) : Prop where
  row : Row b s (s.size - r.length) x w
  suf : r <:+ s.data.toList
  ev : EvB B w
  le : B ≤ b
  small : s.size ≤ 65536
section
variable {B b : Nat} {s : ByteArray} {x : List Value} {r : Ppa.Bs} {w w' : World}
theorem Pa.len (h : Pa B b s x r w) : r.length ≤ s.size := by
  have := h.suf.length_le
  rw [size_len] at this
  exact this
theorem Pa.drop (h : Pa B b s x r w) : s.data.toList.drop (s.size - r.length) = r := by
  have := List.suffix_iff_eq_drop.1 h.suf
  rw [size_len] at this
  exact this.symm
theorem Pa.below (h : Pa B b s x r w) (hb : Below w.heap.size w w') : Pa B b s x r w' := ⟨h.row.below hb, h.suf, h.ev.below (hb.mono h.ev.le), h.le, h.small⟩
theorem Pa.step (h : Pa B b s x r w) {k : Nat} (hr : Row b s k x w') (hg : w.grownBy w' (some b)) (e : k = s.size - (Ppa.skip r).length) : Pa B b s x (Ppa.skip r) w' :=
  ⟨e ▸ hr, (List.drop_suffix _ _).trans h.suf, h.ev.grown h.le hg, h.le, h.small⟩
end
theorem peek_r {B b : Nat} {s : ByteArray} {x : List Value} {r : Ppa.Bs} {w : World} (h : Pa B b s x r w) :
    Calls Tryz.prog 67 #[.pointer (some ⟨b, 0, none⟩)] w fun e w' => e = .returned (.int .i32 (Ppa.peek r)) ∧ Below w.heap.size w w' := by
  have h1 := peek_any (by omega) h.row h.ev.ev.env
  rw [h.drop] at h1
  exact h1
theorem peek_ne {r : Ppa.Bs} (h : 0 ≤ Ppa.peek r) : r ≠ [] := by
  intro e
  subst e
  simp [Ppa.peek] at h
theorem next_r {B b : Nat} {s : ByteArray} {x : List Value} {r : Ppa.Bs} {w : World} (h : Pa B b s x r w) (hne : r ≠ []) :
    Calls Tryz.prog 72 #[.pointer (some ⟨b, 0, none⟩)] w fun e w' => e = .returned (.int .i32 (Ppa.peek r)) ∧ Pa B b s x (Ppa.skip r) w' ∧ w.grownBy w' (some b) := by
  have hl := h.len
  have hp := List.length_pos_iff.2 hne
  have h1 := next_any (by omega) h.small h.row h.ev.ev.env
  rw [h.drop] at h1
  have hd := Lib.decodeL_le r hne
  refine h1.mono ?_
  rintro e w' ⟨rfl, hr, hg⟩
  refine ⟨by unfold Ppa.peek; rw [if_neg hne], h.step hr hg ?_, hg⟩
  unfold Ppa.skip
  rw [List.length_drop]
  omega
theorem no_r {B b : Nat} {s : ByteArray} {x : List Value} {r : Ppa.Bs} {w : World} (h : Pa B b s x r w) :
    Calls Tryz.prog 61 #[.pointer (some ⟨b, 0, none⟩)] w fun e w' => Gone (s.size - r.length) e ∧ w' = w := no_any h.row
/-- how a way of reading ends: with v and what is left, or it gives up -/
def Ways (B b : Nat) (s : ByteArray) (x : List Value) (w : World) (v : Value) (o : Except Ppa.Bs Ppa.Bs) (e : Ending) (w' : World) : Prop :=
  w.grownBy w' (some b) ∧ match o with
    | .ok r => e = .returned v ∧ Pa B b s x r w'
    | .error r => Gone (s.size - r.length) e ∧ r.length ≤ s.size
set_option maxRecDepth 100000 in
theorem may_r {B b : Nat} {s : ByteArray} {x : List Value} {r : Ppa.Bs} {w : World} (c : Int) (hc : 0 ≤ c) (h : Pa B b s x r w) :
    Calls Tryz.prog 58 #[.pointer (some ⟨b, 0, none⟩), .int .i32 c] w fun e w' => e = .returned (.bool (decide (Ppa.peek r = c))) ∧ Pa B b s x (if Ppa.peek r = c then Ppa.skip r else r) w' ∧ w.grownBy w' (some b) := by
  by_cases hp : Ppa.peek r = c
  · have hne := peek_ne (r := r) (by omega)
    have HP := Kept.mk hp
    rw [if_pos hp, decide_eq_true hp]
    clear hc
    go_enter Tryz.func58, Tryz.ntmps58
    go_wp2_with (first | (go_at_call 67; refine (peek_r h).mono ?_; rintro e w1 ⟨rfl, hb1⟩; have H1 := h.below hb1; have G1 := Kept.mk (grown_of_below hb1 (some b)); have e1 : (Ppa.peek r == c) = true := (by rw [beq_iff_eq]; exact hp); clear hp) | (go_at_call 72; refine (next_r H1 hne).mono ?_; rintro e w2 ⟨rfl, hP2, hg2⟩; have G2 := Kept.mk hg2; clear hg2))
    go_ret
    exact ⟨rfl, hP2, G1.out.trans G2.out⟩
  · rw [if_neg hp, decide_eq_false hp]
    clear hc
    go_enter Tryz.func58, Tryz.ntmps58
    go_wp2_with (go_at_call 67; refine (peek_r h).mono ?_; rintro e w1 ⟨rfl, hb1⟩; have H1 := h.below hb1; have G1 := Kept.mk (grown_of_below hb1 (some b)); have e1 : (Ppa.peek r == c) = false := (by simpa using hp); clear hp)
    go_ret
    exact ⟨rfl, H1, G1.out⟩

end Go.Proofs.YtemfmidhekdekaaGreatDoor.Wps
namespace Go.Proofs.YtemfmidhekdekaaGreatDoor.Wps
open Go Go.RowKit Go.Proofs.YtemfmidhekdekaaGreatDoor.Kb Go.Proofs.YtemfmidhekdekaaGreatDoor.Wch

theorem peek_low (c : UInt8) (t : Ppa.Bs) (h : c.toNat < 128) : Ppa.peek (c :: t) = (c.toNat : Int) := by
  unfold Ppa.peek
  rw [if_neg (by simp), Lib.decodeL_ascii c t h]
theorem skip_low (c : UInt8) (t : Ppa.Bs) (h : c.toNat < 128) : Ppa.skip (c :: t) = t := by
  unfold Ppa.skip
  rw [Lib.decodeL_ascii c t h]
  rfl
theorem peek_high (c : UInt8) (t : Ppa.Bs) (h : 128 ≤ c.toNat) : 128 ≤ Ppa.peek (c :: t) := by
  unfold Ppa.peek
  rw [if_neg (by simp)]
  have h1 := (decode_high ⟨(c :: t).toArray⟩ 0 (by simp [ByteArray.size]) h).1
  rw [← Lib.decodeL_drop] at h1
  simp only [List.drop_zero] at h1
  omega
theorem peek_is (c : UInt8) (hc : c.toNat < 128) (r : Ppa.Bs) : Ppa.peek r = (c.toNat : Int) ↔ r.head? = some c := by
  cases r with
  | nil => simp [Ppa.peek]
  | cons y t =>
    rcases Nat.lt_or_ge y.toNat 128 with hy | hy
    · rw [peek_low y t hy]
      simp only [List.head?_cons, Option.some.injEq]
      constructor
      · intro h
        exact UInt8.toNat_inj.1 (by omega)
      · rintro rfl
        rfl
    · have := peek_high y t hy
      simp only [List.head?_cons, Option.some.injEq]
      constructor
      · intro h; omega
      · rintro rfl; omega
/-- a blank stands next -/
def blankH : Ppa.Bs → Bool
  | x :: _ => Pch.blankC x
  | [] => false
theorem blankH_peek (r : Ppa.Bs) : (((Ppa.peek r == 32) || (Ppa.peek r == 9)) || (Ppa.peek r == 10) || (Ppa.peek r == 13)) = blankH r := by
  cases r with
  | nil => rfl
  | cons y t =>
    unfold blankH Pch.blankC
    rcases Nat.lt_or_ge y.toNat 128 with hy | hy
    · rw [peek_low y t hy]
      rw [Bool.eq_iff_iff]
      simp only [Bool.or_eq_true, beq_iff_eq, ← UInt8.toNat_inj]
      simp
      omega
    · have h1 := peek_high y t hy
      rw [Bool.eq_iff_iff]
      simp only [Bool.or_eq_true, beq_iff_eq, ← UInt8.toNat_inj]
      simp
      omega
theorem blankC_low {x : UInt8} (h : Pch.blankC x = true) : x.toNat < 128 := by
  simp only [Pch.blankC, Bool.or_eq_true, beq_iff_eq] at h
  rcases h with ((rfl | rfl) | rfl) | rfl <;> decide
theorem blanksL_of_false {r : Ppa.Bs} (h : blankH r = false) : Ppa.blanksL r = r := by
  cases r with
  | nil => rfl
  | cons y t => exact List.dropWhile_cons_of_neg (by intro e; rw [show blankH (y :: t) = Pch.blankC y from rfl, e] at h; cases h)
theorem blanksL_of_true {y : UInt8} {t : Ppa.Bs} (h : blankH (y :: t) = true) : Ppa.blanksL (y :: t) = Ppa.blanksL t := List.dropWhile_cons_of_pos h
theorem ret_bool {a b : Bool} (h : a = b) : Ending.returned (.bool a) = .returned (.bool b) := by rw [h]
set_option maxRecDepth 100000 in
theorem blank_r {B b : Nat} {s : ByteArray} {x : List Value} {r : Ppa.Bs} {w : World} (h : Pa B b s x r w) :
    Calls Tryz.prog 84 #[.pointer (some ⟨b, 0, none⟩)] w fun e w' => e = .returned (.bool (blankH r)) ∧ Below w.heap.size w w' := by
  have hb := blankH_peek r
  generalize hP : Ppa.peek r = P at hb
  have HB := Kept.mk hb
  have HP := Kept.mk hP
  clear hb hP
  go_enter Tryz.func84, Tryz.ntmps84
  by_cases h1 : P = 32
  · subst h1
    go_wp2_with (go_at_call 67; refine (peek_r h).mono ?_; rintro e w1 ⟨rfl, hb1⟩; rw [HP.out]; have B1 := Kept.mk hb1; clear hb1)
    go_ret
    exact ⟨ret_bool HB.out, B1.out⟩
  · have e1 : (P == 32) = false := by simpa using h1
    rw [e1] at HB
    by_cases h2 : P = 9
    · subst h2
      go_wp2_with (go_at_call 67; refine (peek_r h).mono ?_; rintro e w1 ⟨rfl, hb1⟩; rw [HP.out]; have B1 := Kept.mk hb1; clear hb1)
      go_ret
      exact ⟨ret_bool HB.out, B1.out⟩
    · have e2 : (P == 9) = false := by simpa using h2
      rw [e2] at HB
      by_cases h3 : P = 10
      · subst h3
        go_wp2_with (go_at_call 67; refine (peek_r h).mono ?_; rintro e w1 ⟨rfl, hb1⟩; rw [HP.out]; have B1 := Kept.mk hb1; clear hb1)
        go_ret
        exact ⟨ret_bool HB.out, B1.out⟩
      · have e3 : (P == 10) = false := by simpa using h3
        rw [e3] at HB
        go_wp2_with (go_at_call 67; refine (peek_r h).mono ?_; rintro e w1 ⟨rfl, hb1⟩; rw [HP.out]; have B1 := Kept.mk hb1; clear hb1)
        go_ret
        exact ⟨ret_bool HB.out, B1.out⟩
theorem Pa.cell {B b : Nat} {s : ByteArray} {x : List Value} {r : Ppa.Bs} {w : World} (h : Pa B b s x r w) : ∃ k : Nat, k + r.length = s.size ∧ w.cell? ⟨b, 1, none⟩ = some (.int .i64 (k : Int)) :=
  ⟨s.size - r.length, by have := h.len; omega, h.row.c1⟩
theorem Pa.put {B b : Nat} {s : ByteArray} {x : List Value} {r r' : Ppa.Bs} {w : World} (h : Pa B b s x r w) (hs : r' <:+ s.data.toList) {v : Int} (hv : v + r'.length = s.size) : Pa B b s x r' (w.setCell ⟨b, 1, none⟩ (.int .i64 v)) := by
  have h1 := h.row.set (s.size - r'.length)
  have hl := hs.length_le
  rw [size_len] at hl
  have e : ((s.size - r'.length : Nat) : Int) = v := by omega
  rw [e] at h1
  exact ⟨h1, hs, h.ev.grown h.le (grown_set (World.grownBy.refl _ _) 1 _), h.le, h.small⟩
set_option maxRecDepth 100000 in
theorem blanks_r {B b : Nat} {s : ByteArray} {x : List Value} {r : Ppa.Bs} {w : World} (h : Pa B b s x r w) :
    Calls Tryz.prog 56 #[.pointer (some ⟨b, 0, none⟩)] w fun e w' => e = .returned (.tuple #[]) ∧ Pa B b s x (Ppa.blanksL r) w' ∧ w.grownBy w' (some b) := by
  generalize hT : Ppa.blanksL r = T
  have HT := Kept.mk hT
  clear hT
  go_enter Tryz.func56, Tryz.ntmps56
  go_wp2
  go_loopg [] r.length (fun g wx => ∃ r' : Ppa.Bs, Pa B b s x r' wx ∧ Kept (w.grownBy wx (some b)) ∧ Kept (Ppa.blanksL r' = T) ∧ r'.length ≤ g)
  case atStart => exact ⟨r, h, ⟨World.grownBy.refl _ _⟩, HT, Nat.le_refl _⟩
  case round =>
    obtain ⟨r', hP, G, HE, hle⟩ := hrel
    generalize hB : blankH r' = C
    have HB := Kept.mk hB
    cases C
    · clear hB
      go_wp2_with (go_at_call 84; refine (blank_r hP).mono ?_; rintro e w1 ⟨rfl, hb1⟩; rw [HB.out]; have H1 := hP.below hb1; have G1 := Kept.mk (grown_of_below hb1 (some b)); clear hb1)
      go_end0
      exact ⟨rfl, by rw [← HE.out, blanksL_of_false HB.out]; exact H1, G.out.trans G1.out⟩
    · obtain ⟨y, t, rfl⟩ : ∃ y t, r' = y :: t := by
        cases r' with
        | nil => cases hB
        | cons y t => exact ⟨y, t, rfl⟩
      clear hB
      obtain ⟨g, rfl⟩ : ∃ g, gk = g + 1 := ⟨gk - 1, by simp at hle; omega⟩
      go_wp2_with (go_at_call 84; refine (blank_r hP).mono ?_; rintro e w1 ⟨rfl, hb1⟩; rw [HB.out]; have H1 := hP.below hb1; have G1 := Kept.mk (grown_of_below hb1 (some b)); clear hb1; have hs9 := H1.small; obtain ⟨k, hk, c1⟩ := H1.cell; have f1 := H1.row.unf 1; have k0 : (0 : Int) ≤ (k : Int) := (by omega); have k1 : (k : Int) ≤ 65536 := (by omega))
      go_roundg g
      case measure => simp at hle; omega
      case rel => exact ⟨t, H1.put ((List.suffix_cons _ _).trans H1.suf) (by simp at hk; omega), ⟨grown_set (G.out.trans G1.out) 1 _⟩, ⟨by rw [← HE.out, blanksL_of_true HB.out]⟩, by simp at hle; omega⟩
theorem mustL_ne {c : UInt8} {u r : Ppa.Bs} (h : r.head? ≠ some c) : Ppa.mustL (c :: u) r = .error r := by
  cases r with
  | nil => rfl
  | cons y t =>
    have : y ≠ c := fun e => h (by rw [e]; rfl)
    simp [Ppa.mustL, this]
theorem mustL_eq (c : UInt8) (u t : Ppa.Bs) : Ppa.mustL (c :: u) (c :: t) = Ppa.mustL u t := by simp [Ppa.mustL]
theorem low_at (a : ByteArray) (ha : ∀ c ∈ a.data.toList, c.toNat < 128) (pos : Nat) (h : pos < a.size) : ∃ c : UInt8, c.toNat < 128 ∧ a.data.toList.drop pos = c :: a.data.toList.drop (pos + 1) ∧ Utf8.decode a pos = (c.toNat, 1) := by
  have hl : pos < a.data.toList.length := by rw [size_len]; exact h
  have hd := List.drop_eq_getElem_cons hl
  have hc := ha _ (List.getElem_mem hl)
  refine ⟨a.data.toList[pos], hc, hd, ?_⟩
  rw [← Lib.decodeL_drop, hd]
  exact Lib.decodeL_ascii _ _ hc
theorem Pa.iter {B b k : Nat} {s : ByteArray} {x : List Value} {r : Ppa.Bs} {w : World} (h : Pa B b s x r w) (hk : B ≤ k) (hb : b ≠ k) (a : ByteArray) (pos : Nat) : Pa B b s x r (w.iterAt k a pos) :=
  ⟨(Lib.iterAt_other w k b a pos hb).trans h.row, h.suf, h.ev.below (Lib.below_iterAt (Below.refl _ _) hk a pos), h.le, h.small⟩
theorem grown_iter {w w' : World} {row : Option Nat} (h : w.grownBy w' row) (a : ByteArray) (pos : Nat) : w.grownBy (w'.iterAt w.heap.size a pos) row :=
  ⟨h.os, h.tape, h.output, by rw [Lib.iterAt_size]; exact h.size, fun j hj hne => (Lib.iterAt_other w' w.heap.size j a pos (by omega)).trans (h.block j hj hne)⟩
set_option maxRecDepth 100000 in
theorem must_r {B b : Nat} {s : ByteArray} {x : List Value} {r : Ppa.Bs} {w : World} (a : ByteArray) (ha : ∀ c ∈ a.data.toList, c.toNat < 128) (h : Pa B b s x r w) :
    Calls Tryz.prog 57 #[.pointer (some ⟨b, 0, none⟩), .string a] w fun e w' => Ways B b s x w (.tuple #[]) (Ppa.mustL a.data.toList r) e w' := by
  have hlt := h.row.lt
  have hB0 : B ≤ w.heap.size := h.ev.le
  generalize hT : Ppa.mustL a.data.toList r = T
  have HT := Kept.mk hT
  clear hT
  go_enter Tryz.func57, Tryz.ntmps57
  go_wp2
  go_loopg [] a.size (fun g wx => ∃ (pos : Nat) (r' : Ppa.Bs), wx.heap[w.heap.size]? = some (.stringIter a pos) ∧ Pa B b s x r' wx ∧ Kept (w.grownBy wx (some b)) ∧ Kept (Ppa.mustL (a.data.toList.drop pos) r' = T) ∧ a.size ≤ pos + g)
  case atStart => exact ⟨0, r, World.iter_heap w a 0, h.below ((Below.refl _ w).alloc (Nat.le_refl _) _), ⟨grown_of_below ((Below.refl _ w).alloc (Nat.le_refl _) _) _⟩, HT, by omega⟩
  case round =>
    obtain ⟨pos, r', hit, hP, G, HE, hle⟩ := hrel
    have hsz : w.heap.size < wr.heap.size := (Array.getElem?_eq_some_iff.1 hit).1
    by_cases hp : pos < a.size
    · obtain ⟨g, rfl⟩ : ∃ g, gk = g + 1 := ⟨gk - 1, by omega⟩
      obtain ⟨c, hc, hdr, hdec⟩ := low_at a ha pos hp
      have hnx : ∀ ty, (Instr.next (.pointer (some ⟨w.heap.size, 0, none⟩)) true ty).run Tryz.prog wr = _ := fun ty => Lib.run_next_any_at wr w.heap.size a pos ty hit hp
      rw [hdec] at hnx
      have hit2 := Lib.iterAt_heap wr w.heap.size a pos (pos + 1) hit
      have hP2 := hP.iter (k := w.heap.size) hB0 (by omega) a (pos + 1)
      have hG2 := grown_iter G.out a (pos + 1)
      obtain ⟨W, hWd⟩ : ∃ W, wr.iterAt w.heap.size a (pos + 1) = W := ⟨_, rfl⟩
      rw [hWd] at hnx hit2 hP2 hG2
      have hWs : w.heap.size < W.heap.size := (Array.getElem?_eq_some_iff.1 hit2).1
      have hpk := peek_is c hc r'
      have h1 := HE.out
      rw [hdr] at h1
      have H2 := Kept.mk h1
      have HG2 := Kept.mk hG2
      clear HE h1 hdr hdec G hG2 hit hP hWd
      by_cases heq : r'.head? = some c
      · obtain ⟨t, rfl⟩ : ∃ t, r' = c :: t := by
          cases r' with
          | nil => cases heq
          | cons y t => exact ⟨t, by injection heq with e; rw [e]⟩
        have hq := hpk.2 heq
        have CM := Kept.mk (may_r (c.toNat : Int) (by omega) hP2)
        rw [decide_eq_true hq, if_pos hq, skip_low c t hc] at CM
        clear hq hpk heq
        go_wp2_with (go_at_call 58; refine CM.out.mono ?_; rintro e w1 ⟨rfl, hP1, hg1⟩; have G1 := Kept.mk hg1; clear hg1)
        go_roundg g
        case measure => omega
        case rel => exact ⟨pos + 1, t, (G1.out.block _ hWs (by intro e; injection e with e; omega)).trans hit2, hP1, ⟨HG2.out.trans G1.out⟩, ⟨by rw [← H2.out, mustL_eq]⟩, by omega⟩
      · have hq := fun e => heq (hpk.1 e)
        have CM := Kept.mk (may_r (c.toNat : Int) (by omega) hP2)
        rw [decide_eq_false hq, if_neg hq] at CM
        have HX := Kept.mk (H2.out.symm.trans (mustL_ne heq))
        clear hq hpk heq
        go_wp2_with (first | (go_at_call 58; refine CM.out.mono ?_; rintro e w1 ⟨rfl, hP1, hg1⟩; have G1 := Kept.mk hg1; clear hg1) | (go_at_call 61; refine (no_r hP1).mono ?_; rintro e w2 ⟨rfl, rfl⟩))
        exact ⟨rfl, HG2.out.trans G1.out, by rw [HX.out]; exact ⟨rfl, hP1.len⟩⟩
    · have hnx : ∀ ty, (Instr.next (.pointer (some ⟨w.heap.size, 0, none⟩)) true ty).run Tryz.prog wr = _ := fun ty => Lib.run_next_end_at wr w.heap.size a pos ty hit hp
      have h1 := HE.out
      rw [List.drop_eq_nil_of_le (by rw [size_len]; omega)] at h1
      have H1 : Kept (T = .ok r') := ⟨h1.symm⟩
      clear h1 HE
      go_wp2
      go_end0
      exact ⟨G.out, by rw [H1.out]; exact ⟨rfl, hP⟩⟩
end Go.Proofs.YtemfmidhekdekaaGreatDoor.Wps
namespace Go.Proofs.YtemfmidhekdekaaGreatDoor.Wps
open Go Go.RowKit Go.Proofs.YtemfmidhekdekaaGreatDoor.Kb Go.Proofs.YtemfmidhekdekaaGreatDoor.Wch

/-- a way of reading that hands back a value -/
def WaysV {α : Type} (B b : Nat) (s : ByteArray) (x : List Value) (w : World) (val : α → Value) (o : Except Ppa.Bs (α × Ppa.Bs)) (e : Ending) (w' : World) : Prop :=
  w.grownBy w' (some b) ∧ match o with
    | .ok (v, r) => e = .returned (val v) ∧ Pa B b s x r w'
    | .error r => Gone (s.size - r.length) e ∧ r.length ≤ s.size
def strV (l : Ppa.Bs) : Value := .string ⟨l.toArray⟩
def nameO (r : Ppa.Bs) : Except Nat Nat → Except Ppa.Bs (Ppa.Bs × Ppa.Bs)
  | .ok k => .ok (r.take k, r.drop k)
  | .error k => .error (r.drop k)
theorem nameM_eq {r : Ppa.Bs} (h : Pch.startB (Ppa.peek r) = true) : Ppa.nameM r = nameO r (Ppa.nameF r.length 0 r) := by
  unfold Ppa.nameM
  rw [if_pos h]
  cases Ppa.nameF r.length 0 r <;> rfl
theorem nameF_step (f k : Nat) (r : Ppa.Bs) (h : Pch.nameB (Ppa.peek r) = true) : Ppa.nameF (f + 1) k r = if 100 < k + (Lib.decodeL r).2 then .error k else Ppa.nameF f (k + (Lib.decodeL r).2) (Ppa.skip r) := by
  rw [Ppa.nameF, if_pos h]
theorem nameF_end (f k : Nat) (r : Ppa.Bs) (h : Pch.nameB (Ppa.peek r) = false) : Ppa.nameF f k r = .ok k := by
  cases f with
  | zero => rfl
  | succ f => rw [Ppa.nameF, if_neg (by simp [h])]
theorem name_ne {r : Ppa.Bs} (h : Pch.nameB (Ppa.peek r) = true) : r ≠ [] := by
  intro e
  subst e
  revert h
  decide
theorem ret_str {a b : ByteArray} (h : a = b) : Ending.returned (.string a) = .returned (.string b) := by rw [h]
theorem extract_part (s : ByteArray) (a n : Nat) : s.extract a (a + n) = ⟨((s.data.toList.drop a).take n).toArray⟩ := by
  have h := Lib.extract_data s a (a + n)
  rw [show a + n - a = n by omega] at h
  rw [← h]
set_option maxRecDepth 100000 in
set_option maxHeartbeats 2000000 in
theorem name_r {B b : Nat} {s : ByteArray} {x : List Value} {r : Ppa.Bs} {w : World} (h : Pa B b s x r w) :
    Calls Tryz.prog 85 #[.pointer (some ⟨b, 0, none⟩)] w fun e w' => WaysV B b s x w strV (Ppa.nameM r) e w' := by
  have hs9 := h.small
  have hdr := h.drop
  have hll := h.len
  obtain ⟨k0, hk0, c1⟩ := h.cell
  have i0 : (0 : Int) ≤ (k0 : Int) := by omega
  have i1 : (k0 : Int) ≤ 65536 := by omega
  cases hst : Pch.startB (Ppa.peek r) with
  | false =>
    have hM : Ppa.nameM r = .error r := by unfold Ppa.nameM; rw [if_neg (by simp [hst])]
    rw [hM]
    have HST := Kept.mk hst
    clear hM hst
    go_enter Tryz.func85, Tryz.ntmps85
    go_wp2_with (first | (go_at_call 67; refine (peek_r h).mono ?_; rintro e w1 ⟨rfl, hb1⟩; have H1 := h.below hb1; have G1 := Kept.mk hb1; clear hb1) | (go_at_call 100; refine (start_any (Ppa.peek r) w1 H1.ev.ev.env.1).mono ?_; rintro e w2 ⟨rfl, hb2⟩; rw [HST.out]; have H2 := H1.below hb2; have G2 := Kept.mk (G1.out.trans (hb2.mono G1.out.size)); clear hb2) | (go_at_call 61; refine (no_r H2).mono ?_; rintro e w3 ⟨rfl, rfl⟩))
    exact ⟨rfl, grown_of_below G2.out _, rfl, H2.len⟩
  | true =>
    rw [nameM_eq hst]
    generalize hN : Ppa.nameF r.length 0 r = N
    have HST := Kept.mk hst
    have HN := Kept.mk hN
    clear hst hN
    go_enter Tryz.func85, Tryz.ntmps85
    go_wp2_with (first | (go_at_call 67; refine (peek_r h).mono ?_; rintro e w1 ⟨rfl, hb1⟩; have H1 := h.below hb1; have G1 := Kept.mk hb1; clear hb1) | (go_at_call 100; refine (start_any (Ppa.peek r) w1 H1.ev.ev.env.1).mono ?_; rintro e w2 ⟨rfl, hb2⟩; rw [HST.out]; have H2 := H1.below hb2; have G2 := Kept.mk (grown_of_below (G1.out.trans (hb2.mono G1.out.size)) (some b)); clear hb2))
    go_loopg [4] r.length (fun g _ wx => ∃ k : Nat, k ≤ r.length ∧ Pa B b s x (r.drop k) wx ∧ Kept (w.grownBy wx (some b)) ∧ Kept (Ppa.nameF g k (r.drop k) = N) ∧ r.length - k ≤ g ∧ k ≤ 100)
    case atStart => exact ⟨0, by omega, H2, G2, HN, by omega, by omega⟩
    case round =>
      obtain ⟨k, hk, hP, G, HE, hfu, hk100⟩ := hrel
      have hlr : (r.drop k).length = r.length - k := List.length_drop
      cases hnb : Pch.nameB (Ppa.peek (r.drop k)) with
      | false =>
        have HX : Kept (N = .ok k) := ⟨HE.out.symm.trans (nameF_end _ _ _ hnb)⟩
        have HNB := Kept.mk hnb
        clear hnb
        go_wp2_with (first | (go_at_call 67; refine (peek_r hP).mono ?_; rintro e w3 ⟨rfl, hb3⟩; have H3 := hP.below hb3; have G3 := Kept.mk hb3; clear hb3) | (go_at_call 99; refine (name_any (Ppa.peek (r.drop k)) w3 H3.ev.ev.env.1).mono ?_; rintro e w4 ⟨rfl, hb4⟩; rw [HNB.out]; have H4 := H3.below hb4; have G4 := Kept.mk (grown_of_below (G3.out.trans (hb4.mono G3.out.size)) (some b)); clear hb4; obtain ⟨k1, hk1, d1⟩ := H4.cell))
        have bx0 := beh_cell H4.row.c0
        have bx1 := beh_cell d1
        have i2 : (k0 : Int) ≤ (k1 : Int) := by omega
        have i3 : (k1 : Int) ≤ (s.size : Int) := by omega
        refine wp_region_beh (by kernel_rfl) (by kernel_rfl) ?_
        repeat
          (refine Qw_step (fun K hK => ?_)
           go_simp
           first
             | (refine hK _ ?_; clear hK K)
             | (apply Exists.intro
                refine ⟨fun _ => ?_, hK _ ?_⟩
                (fail)
                clear hK K))
        refine Qw_nil ?_
        rintro w5 ⟨⟨_, hb5⟩, rfl⟩
        have H5 := H4.below hb5
        have G5 := Kept.mk (grown_of_below hb5 (some b))
        clear bx0 bx1 hb5
        go_wp2
        go_ret
        refine ⟨G.out.trans (G4.out.trans G5.out), ?_⟩
        rw [HX.out]
        obtain rfl : k1 = k0 + k := by omega
        refine ⟨ret_str ?_, H5⟩
        rw [extract_part, show k0 = s.size - r.length by omega, hdr]
      | true =>
        have hne := name_ne hnb
        have hpos := List.length_pos_iff.2 hne
        have hd1 := Lib.decodeL_width (r.drop k)
        have hd2 := Lib.decodeL_le (r.drop k) hne
        obtain ⟨g, rfl⟩ : ∃ g, gk = g + 1 := ⟨gk - 1, by omega⟩
        have hS := nameF_step g k (r.drop k) hnb
        have hsk : Ppa.skip (r.drop k) = r.drop (k + (Lib.decodeL (r.drop k)).2) := by unfold Ppa.skip; rw [List.drop_drop]
        generalize (Lib.decodeL (r.drop k)).2 = d at hS hsk hd1 hd2
        have h1 := HE.out
        rw [hS, hsk] at h1
        have HSK := Kept.mk hsk
        have HNB := Kept.mk hnb
        have l2 : (r.drop (k + d)).length = r.length - (k + d) := List.length_drop
        by_cases hbig : 100 < k + d
        · rw [if_pos hbig] at h1
          have HX : Kept (N = .error k) := ⟨h1.symm⟩
          clear hnb h1 hS hsk HE
          go_wp2_with (first | (go_at_call 67; refine (peek_r hP).mono ?_; rintro e w3 ⟨rfl, hb3⟩; have H3 := hP.below hb3; have G3 := Kept.mk hb3; clear hb3) | (go_at_call 99; refine (name_any (Ppa.peek (r.drop k)) w3 H3.ev.ev.env.1).mono ?_; rintro e w4 ⟨rfl, hb4⟩; rw [HNB.out]; have H4 := H3.below hb4; have G4 := Kept.mk (grown_of_below (G3.out.trans (hb4.mono G3.out.size)) (some b)); clear hb4; obtain ⟨k1, hk1, d1⟩ := H4.cell) | (go_at_call 72; refine (next_r H4 hne).mono ?_; rintro e w5 ⟨rfl, hP5, hg5⟩; rw [HSK.out] at hP5; have G5 := Kept.mk (G4.out.trans hg5); clear hg5; obtain ⟨k2, hk2, d2⟩ := hP5.cell; have f2 := hP5.row.unf 1; have j0 : (0 : Int) ≤ (k2 : Int) - (k0 : Int) := (by omega); have j1 : (100 : Int) < (k2 : Int) - (k0 : Int) := (by omega); have j2 : (k2 : Int) ≤ 65536 := (by omega)) | (go_at_call 61; have HP6 := hP5.put (r' := r.drop k) (v := (k1 : Int)) H4.suf (by omega); refine (no_r HP6).mono ?_; rintro e w6 ⟨rfl, rfl⟩))
          exact ⟨rfl, G.out.trans (grown_set G5.out 1 _), by rw [HX.out]; exact ⟨by unfold Gone; rw [hlr], by omega⟩⟩
        · rw [if_neg hbig] at h1
          have H2 := Kept.mk h1
          clear hnb h1 hS hsk HE
          go_wp2_with (first | (go_at_call 67; refine (peek_r hP).mono ?_; rintro e w3 ⟨rfl, hb3⟩; have H3 := hP.below hb3; have G3 := Kept.mk hb3; clear hb3) | (go_at_call 99; refine (name_any (Ppa.peek (r.drop k)) w3 H3.ev.ev.env.1).mono ?_; rintro e w4 ⟨rfl, hb4⟩; rw [HNB.out]; have H4 := H3.below hb4; have G4 := Kept.mk (grown_of_below (G3.out.trans (hb4.mono G3.out.size)) (some b)); clear hb4; obtain ⟨k1, hk1, d1⟩ := H4.cell) | (go_at_call 72; refine (next_r H4 hne).mono ?_; rintro e w5 ⟨rfl, hP5, hg5⟩; rw [HSK.out] at hP5; have G5 := Kept.mk (G4.out.trans hg5); clear hg5; obtain ⟨k2, hk2, d2⟩ := hP5.cell; have j0 : (0 : Int) ≤ (k2 : Int) - (k0 : Int) := (by omega); have j1 : ¬ (100 : Int) < (k2 : Int) - (k0 : Int) := (by omega); have j2 : (k2 : Int) ≤ 65536 := (by omega)))
          go_roundg g
          case measure => omega
          case rel => exact ⟨k + d, by omega, hP5, ⟨G.out.trans G5.out⟩, H2, by omega, by omega⟩
theorem hasP (x : UInt8) (t e : Ppa.Bs) : Lib.hasPrefix (x :: t) e = e.isPrefixOf (x :: t) := rfl
theorem index_lo : ∀ (r e : Ppa.Bs), -1 ≤ Lib.index r e
  | [], e => by unfold Lib.index; split <;> decide
  | b :: l, e => by
    have := index_lo l e
    unfold Lib.index
    split
    · decide
    · split
      · decide
      · omega
theorem untilM_index (e : Ppa.Bs) (he : e ≠ []) : ∀ r : Ppa.Bs, Ppa.untilM e r = if Lib.index r e = -1 then none else some (r.take (Lib.index r e).toNat, r.drop ((Lib.index r e).toNat + e.length))
  | [] => by
    rw [show Lib.index [] e = -1 by unfold Lib.index; cases e with | nil => exact absurd rfl he | cons _ _ => rfl, if_pos rfl]
    simp [Ppa.untilM, he]
  | b :: l => by
    have ih := untilM_index e he l
    have hlo := index_lo l e
    unfold Ppa.untilM Lib.index
    rw [hasP]
    by_cases hp : e.isPrefixOf (b :: l) = true
    · rw [if_pos hp, if_pos hp, if_neg (by decide)]
      simp
    · rw [if_neg hp, if_neg hp, ih]
      by_cases h1 : Lib.index l e = -1
      · simp [h1]
      · have h2 : (Lib.index l e == -1) = false := by simpa using h1
        rw [if_neg h1, h2]
        simp only [Bool.false_eq_true, if_false]
        rw [if_neg (show ¬ Lib.index l e + 1 = -1 by omega)]
        have h3 : (Lib.index l e + 1).toNat = (Lib.index l e).toNat + 1 := by omega
        rw [h3, show (Lib.index l e).toNat + 1 + e.length = (Lib.index l e).toNat + e.length + 1 by omega]
        rfl
theorem index_fits (e : Ppa.Bs) : ∀ r : Ppa.Bs, Lib.index r e ≠ -1 → (Lib.index r e).toNat + e.length ≤ r.length
  | [] => by
    unfold Lib.index
    split
    · rename_i h
      have : e = [] := List.isEmpty_iff.1 h
      subst this
      simp
    · intro h; exact absurd rfl h
  | b :: l => by
    have ih := index_fits e l
    have hlo := index_lo l e
    unfold Lib.index
    by_cases hp : e.isPrefixOf (b :: l) = true
    · rw [if_pos hp]
      have := (List.isPrefixOf_iff_prefix.1 hp).length_le
      simp only [List.length_cons] at this ⊢
      intro _
      omega
    · rw [if_neg hp]
      by_cases h1 : Lib.index l e = -1
      · simp [h1]
      · have h2 : (Lib.index l e == -1) = false := by simpa using h1
        rw [h2, if_neg (by simp)]
        intro _
        have := ih h1
        simp only [List.length_cons]
        omega
theorem index_call (s a : ByteArray) (k : Nat) (r : Ppa.Bs) (hd : s.data.toList.drop k = r) (hs : s.size ≤ 65536) (w : World) (he : Ev w) :
    Calls Tryz.prog 39 #[.string (s.extract k s.size), .string a] w fun e w' => e = .returned (.int .i64 (Lib.index r a.data.toList)) ∧ Below w.heap.size w w' := by
  obtain ⟨m, hm⟩ := he.mx
  have h1 := Any.strings_Index Tryz.lays143 (s.extract k s.size) a m w (by rw [ByteArray.size_extract]; omega) hm
  rw [Lib.extract_to_end, hd] at h1
  exact h1.mono fun e w' ⟨he, hw⟩ => ⟨he, by rw [hw]; exact Below.refl _ _⟩
set_option maxRecDepth 100000 in
set_option maxHeartbeats 2000000 in
theorem until_r {B b : Nat} {s : ByteArray} {x : List Value} {r : Ppa.Bs} {w : World} (a : ByteArray) (ha : 0 < a.size) (ha2 : a.size ≤ 100) (h : Pa B b s x r w) :
    Calls Tryz.prog 86 #[.pointer (some ⟨b, 0, none⟩), .string a] w fun e w' => WaysV B b s x w strV (Ppa.untilR a.data.toList r) e w' := by
  have hs9 := h.small
  have hdr := h.drop
  have hll := h.len
  have hev := h.ev.ev
  obtain ⟨k0, hk0, c1⟩ := h.cell
  have hsk : s.size - r.length = k0 := by omega
  rw [hsk] at hdr
  have i0 : (0 : Int) ≤ (k0 : Int) := by omega
  have i1 : (k0 : Int) ≤ (s.size : Int) := by omega
  have i2 : (s.size : Int) ≤ 65536 := by omega
  have bx0 := beh_cell h.row.c0
  have bx1 := beh_cell c1
  have hne : a.data.toList ≠ [] := by intro e; have := size_len a; rw [e] at this; simp at this; omega
  have hfit := index_fits a.data.toList r
  have hlo := index_lo r a.data.toList
  have CI := Kept.mk (fun (y : Beh w) => index_call s a k0 r hdr hs9 y.fin (hev.below y.ok))
  unfold Ppa.untilR
  rw [untilM_index _ hne]
  generalize hI : Lib.index r a.data.toList = I at CI hfit hlo
  rw [size_len] at hfit ⊢
  clear hI hev hne
  by_cases hneg : I = -1
  · subst hneg
    rw [if_pos rfl]
    clear hfit hlo
    go_enter Tryz.func86, Tryz.ntmps86
    go_wp2
    refine wp_region_beh (by kernel_rfl) (by kernel_rfl) ?_
    repeat
      (refine Qw_step (fun K hK => ?_)
       go_simp
       first
         | (refine hK _ ?_; clear hK K)
         | (apply Exists.intro
            refine ⟨fun _ => ?_, hK _ ?_⟩
            (go_at_call 39; exact Calls.beh_of (CI.out _))
            clear hK K))
    refine Qw_nil ?_
    rintro w5 ⟨⟨_, hb5⟩, rfl⟩
    have H5 := h.below hb5
    have G5 := Kept.mk (grown_of_below hb5 (some b))
    have d0 := H5.row.c0
    have d1 := H5.row.c1
    have f1 := H5.row.unf 1
    clear bx0 bx1 hb5
    have HP6 : Pa B b s x [] (w5.setCell ⟨b, 1, none⟩ (.int .i64 (s.size : Int))) := H5.put (List.nil_suffix) (by simp)
    go_wp2_with (go_at_call 61; refine (no_r HP6).mono ?_; rintro e w6 ⟨rfl, rfl⟩)
    exact ⟨rfl, grown_set G5.out 1 _, rfl, by simp⟩
  · rw [if_neg hneg]
    have hf := hfit hneg
    obtain ⟨n, rfl⟩ : ∃ n : Nat, I = (n : Int) := ⟨I.toNat, by omega⟩
    rw [Int.toNat_natCast] at hf ⊢
    clear hfit hneg hlo
    have i3 : (0 : Int) ≤ (n : Int) := by omega
    have i4 : (n : Int) ≤ 65536 := by omega
    have i5 : (0 : Int) ≤ (a.size : Int) := by omega
    have i6 : (a.size : Int) ≤ 100 := by omega
    have i7 : (k0 : Int) + (n : Int) ≤ (s.size : Int) := by omega
    have i8 : (k0 : Int) ≤ (k0 : Int) + (n : Int) := by omega
    go_enter Tryz.func86, Tryz.ntmps86
    go_wp2
    refine wp_region_beh (by kernel_rfl) (by kernel_rfl) ?_
    repeat
      (refine Qw_step (fun K hK => ?_)
       go_simp
       first
         | (refine hK _ ?_; clear hK K)
         | (apply Exists.intro
            refine ⟨fun _ => ?_, hK _ ?_⟩
            (go_at_call 39; exact Calls.beh_of (CI.out _))
            clear hK K))
    refine Qw_nil ?_
    rintro w5 ⟨⟨_, hb5⟩, rfl⟩
    have H5 := h.below hb5
    have G5 := Kept.mk (grown_of_below hb5 (some b))
    have d0 := H5.row.c0
    have d1 := H5.row.c1
    rw [hsk] at d1
    have f1 := H5.row.unf 1
    clear bx0 bx1 hb5
    go_wp2
    go_ret
    refine ⟨grown_set G5.out 1 _, ?_, ?_⟩
    · exact ret_str (by rw [extract_part, hdr])
    · exact H5.put ((List.drop_suffix _ _).trans H5.suf) (by rw [List.length_drop]; omega)
end Go.Proofs.YtemfmidhekdekaaGreatDoor.Wps
namespace Go.Proofs.YtemfmidhekdekaaGreatDoor.Ppa
open Go Go.Lib Go.Proofs.YtemfmidhekdekaaGreatDoor.Ptr

def repF (old new : Bs) : Nat → Bs → Bs
  | 0, l => l
  | _ + 1, [] => []
  | f + 1, b :: l => if old.isPrefixOf (b :: l) = true then new ++ repF old new f ((b :: l).drop old.length) else b :: repF old new f l
theorem index_pre {old : Bs} {b : UInt8} {l : Bs} (h : old.isPrefixOf (b :: l) = true) : index (b :: l) old = ((0 : Nat) : Int) := by
  unfold index
  rw [if_pos h]
  rfl
theorem index_not {old : Bs} {b : UInt8} {l : Bs} (h : ¬ old.isPrefixOf (b :: l) = true) : index (b :: l) old = if index l old = -1 then -1 else index l old + 1 := by
  rw [index, if_neg h]
  by_cases h1 : index l old = -1
  · simp [h1]
  · simp [h1]
theorem replace_gen (old new : Bs) (ho : old ≠ []) : ∀ (f : Nat) (l : Bs) (k : Nat), l.length ≤ f → count l old ≤ k → replaceK old new k l = repF old new f l
  | 0, l, k, hf, _ => by
    have : l = [] := List.eq_nil_of_length_eq_zero (by omega)
    subst this
    cases k with
    | zero => rfl
    | succ k =>
      have : index [] old = -1 := by unfold index; cases old with | nil => exact absurd rfl ho | cons _ _ => rfl
      simp [replaceK, this, repF]
  | f + 1, [], k, _, _ => by
    cases k with
    | zero => rfl
    | succ k =>
      have : index [] old = -1 := by unfold index; cases old with | nil => exact absurd rfl ho | cons _ _ => rfl
      simp [replaceK, this, repF]
  | f + 1, b :: l, k, hf, hk => by
    rw [repF]
    have hpos := List.length_pos_iff.2 ho
    by_cases h : old.isPrefixOf (b :: l) = true
    · have hi := index_pre h
      have hc := count_hit ho hi
      rw [Nat.zero_add] at hc
      obtain ⟨k, rfl⟩ : ∃ j, k = j + 1 := ⟨k - 1, by omega⟩
      rw [replaceK_hit old new k _ 0 hi, if_pos h, Nat.zero_add]
      rw [replace_gen old new ho f _ k (by rw [List.length_drop]; simp only [List.length_cons] at hf ⊢; omega) (by omega)]
      rfl
    · rw [if_neg h]
      have hn := index_not h
      by_cases h1 : index l old = -1
      · rw [if_pos h1] at hn
        have h0 := replace_gen old new ho f l 0 (by simp at hf; omega) (by rw [count_miss h1]; exact Nat.le_refl _)
        rw [← h0]
        cases k with
        | zero => rfl
        | succ k => simp only [replaceK, hn]; rfl
      · rw [if_neg h1] at hn
        have hge := index_ge l old
        obtain ⟨i, hi⟩ : ∃ i : Nat, index l old = i := ⟨(index l old).toNat, by omega⟩
        have hi2 : index (b :: l) old = ((i + 1 : Nat) : Int) := by rw [hn, hi]; omega
        have c1 := count_hit ho hi
        have c2 := count_hit ho hi2
        have c3 : count (b :: l) old = count l old := by
          rw [c1, c2, show i + 1 + old.length = (i + old.length) + 1 by omega]
          rfl
        have ih := replace_gen old new ho f l k (by simp at hf; omega) (by omega)
        rw [← ih]
        obtain ⟨k, rfl⟩ : ∃ j, k = j + 1 := ⟨k - 1, by omega⟩
        rw [replaceK_hit old new k _ _ hi, replaceK_hit old new k _ _ hi2, show i + 1 + old.length = (i + old.length) + 1 by omega]
        rfl
theorem replaceAll_gen (old new l : Bs) (ho : old ≠ []) (hn : (old == new) = false) : replaceAll l old new = repF old new l.length l := by
  unfold replaceAll replace replaceNum
  rw [hn, if_neg (by simp), if_pos (.inl (by decide))]
  exact replace_gen old new ho _ l _ (Nat.le_refl _) (Nat.le_refl _)
def crlf : Bs → Bs
  | [] => []
  | 13 :: 10 :: t => 10 :: crlf t
  | x :: t => x :: crlf t
theorem crlf_two (t : Bs) : crlf (13 :: 10 :: t) = 10 :: crlf t := by rw [crlf]
theorem crlf_one {x : UInt8} {t : Bs} (h : ¬ (x = 13 ∧ t.head? = some 10)) : crlf (x :: t) = x :: crlf t := by
  rw [crlf]
  intro t' hx ht
  exact h ⟨hx, by rw [ht]; rfl⟩
theorem said_two (t : Bs) : said (13 :: 10 :: t) = 10 :: said t := by rw [said]
theorem said_one {t : Bs} (h : t.head? ≠ some 10) : said (13 :: t) = 10 :: said t := by
  rw [said]
  intro t' ht
  exact h (by rw [ht]; rfl)
theorem said_other {x : UInt8} {t : Bs} (h : x ≠ 13) : said (x :: t) = x :: said t := by
  rw [said]
  · intro t' hx _
    exact h hx
  · exact h
theorem repF_crlf : ∀ (f : Nat) (l : Bs), l.length ≤ f → repF [13, 10] [10] f l = crlf l
  | 0, l, hf => by
    have : l = [] := List.eq_nil_of_length_eq_zero (by omega)
    subst this
    rfl
  | f + 1, [], _ => rfl
  | f + 1, x :: t, hf => by
    simp only [List.length_cons] at hf
    rw [repF]
    by_cases h : x = 13 ∧ t.head? = some 10
    · obtain ⟨rfl, h2⟩ := h
      obtain ⟨u, rfl⟩ : ∃ u, t = 10 :: u := by
        cases t with
        | nil => cases h2
        | cons y u => exact ⟨u, by injection h2 with e; rw [e]⟩
      rw [if_pos (by simp [List.isPrefixOf]), crlf_two]
      simp only [List.length_cons] at hf
      show [10] ++ repF [13, 10] [10] f u = _
      rw [repF_crlf f u (by omega)]
      rfl
    · rw [crlf_one h, if_neg, repF_crlf f t (by omega)]
      intro hp
      apply h
      simp only [List.isPrefixOf, Bool.and_eq_true, beq_iff_eq] at hp
      refine ⟨hp.1.symm, ?_⟩
      cases t with
      | nil => simp at hp
      | cons y u => simp at hp; rw [← hp.2]; rfl
theorem repF_cr : ∀ (f : Nat) (l : Bs), l.length ≤ f → repF [13] [10] f l = l.map fun x => if x = 13 then 10 else x
  | 0, l, hf => by
    have : l = [] := List.eq_nil_of_length_eq_zero (by omega)
    subst this
    rfl
  | f + 1, [], _ => rfl
  | f + 1, x :: t, hf => by
    simp only [List.length_cons] at hf
    rw [repF, List.map_cons, ← repF_cr f t (by omega)]
    by_cases h : x = 13
    · subst h
      rw [if_pos (by simp [List.isPrefixOf]), if_pos rfl]
      rfl
    · rw [if_neg h, if_neg]
      simp [List.isPrefixOf]
      exact fun e => h e.symm
theorem crlf_said : ∀ (n : Nat) (l : Bs), l.length ≤ n → (crlf l).map (fun x => if x = 13 then 10 else x) = said l
  | 0, l, hf => by
    have : l = [] := List.eq_nil_of_length_eq_zero (by omega)
    subst this
    rfl
  | n + 1, [], _ => rfl
  | n + 1, x :: t, hf => by
    simp only [List.length_cons] at hf
    by_cases h : x = 13 ∧ t.head? = some 10
    · obtain ⟨rfl, h2⟩ := h
      obtain ⟨u, rfl⟩ : ∃ u, t = 10 :: u := by
        cases t with
        | nil => cases h2
        | cons y u => exact ⟨u, by injection h2 with e; rw [e]⟩
      simp only [List.length_cons] at hf
      rw [crlf_two, said_two, List.map_cons, crlf_said n u (by omega)]
      rfl
    · rw [crlf_one h, List.map_cons, crlf_said n t (by omega)]
      by_cases hx : x = 13
      · subst hx
        rw [if_pos rfl, said_one (fun e => h ⟨rfl, e⟩)]
      · rw [if_neg hx, said_other hx]
theorem said_prog (l : Bs) : replaceAll (replaceAll l [13, 10] [10]) [13] [10] = said l := by
  rw [replaceAll_gen [13, 10] [10] l (by simp) (by decide), replaceAll_gen [13] [10] _ (by simp) (by decide), repF_crlf _ l (Nat.le_refl _), repF_cr _ _ (Nat.le_refl _), crlf_said _ l (Nat.le_refl _)]
theorem repl_crlf (l : Bs) : replaceAll l [13, 10] [10] = crlf l := by
  rw [replaceAll_gen [13, 10] [10] l (by simp) (by decide), repF_crlf _ l (Nat.le_refl _)]
theorem crlf_length : ∀ (n : Nat) (l : Bs), l.length ≤ n → (crlf l).length ≤ l.length
  | 0, l, hf => by
    have : l = [] := List.eq_nil_of_length_eq_zero (by omega)
    subst this
    exact Nat.le_refl _
  | n + 1, [], _ => Nat.le_refl _
  | n + 1, x :: t, hf => by
    simp only [List.length_cons] at hf
    by_cases h : x = 13 ∧ t.head? = some 10
    · obtain ⟨rfl, h2⟩ := h
      obtain ⟨u, rfl⟩ : ∃ u, t = 10 :: u := by
        cases t with
        | nil => cases h2
        | cons y u => exact ⟨u, by injection h2 with e; rw [e]⟩
      simp only [List.length_cons] at hf ⊢
      rw [crlf_two]
      have := crlf_length n u (by omega)
      simp only [List.length_cons]
      omega
    · rw [crlf_one h]
      have := crlf_length n t (by omega)
      simp only [List.length_cons]
      omega
theorem said_length (l : Bs) : (said l).length ≤ l.length := by
  rw [← crlf_said _ l (Nat.le_refl _), List.length_map]
  exact crlf_length _ l (Nat.le_refl _)
end Go.Proofs.YtemfmidhekdekaaGreatDoor.Ppa
namespace Go.Proofs.YtemfmidhekdekaaGreatDoor.Wps
open Go Go.RowKit Go.Proofs.YtemfmidhekdekaaGreatDoor.Kb Go.Proofs.YtemfmidhekdekaaGreatDoor.Wch

theorem repl_call (v old new : ByteArray) (w : World) (hv : v.size ≤ 65536) (h1 : 1 ≤ old.size) (hn : new.size = 1) (he : Ev w) :
    Calls Tryz.prog 35 #[.string v, .string old, .string new] w fun e w' => e = .returned (.string ⟨(Lib.replaceAll v.data.toList old.data.toList new.data.toList).toArray⟩) ∧ Below w.heap.size w w' := by
  obtain ⟨m, hm⟩ := he.mx
  have h2 := Lib.countB_mul_le old h1 v.size v (Nat.le_refl _)
  refine Any.strings_ReplaceAll Tryz.lays155 Tryz.Builder_Extra_155 v old new m w (by omega) hm h1 ?_
  rw [hn]
  have h3 : Lib.countB v old ≤ Lib.countB v old * old.size := Nat.le_mul_of_pos_right _ h1
  omega
theorem lines_r (v : ByteArray) (w : World) (hv : v.size ≤ 65536) (he : Ev w) :
    Calls Tryz.prog 87 #[.string v] w fun e w' => e = .returned (strV (Ppa.said v.data.toList)) ∧ Below w.heap.size w w' := by
  have C1 := Kept.mk (repl_call v ⟨#[13, 10]⟩ ⟨#[10]⟩ w hv (by decide) rfl he)
  have hs := Ppa.said_prog v.data.toList
  have hl := Ppa.crlf_length _ v.data.toList (Nat.le_refl _)
  rw [size_len, ← Ppa.repl_crlf] at hl
  generalize hX : Lib.replaceAll v.data.toList [13, 10] [10] = X at hs hl
  have CX : Kept (Calls Tryz.prog 35 #[.string v, .string ⟨#[13, 10]⟩, .string ⟨#[10]⟩] w fun e w' => e = .returned (.string ⟨X.toArray⟩) ∧ Below w.heap.size w w') := ⟨by rw [← hX]; exact C1.out⟩
  have HS := Kept.mk hs
  have HE := Kept.mk he
  have hz : (⟨X.toArray⟩ : ByteArray).size ≤ 65536 := by show X.toArray.size ≤ _; rw [List.size_toArray]; omega
  clear hs he C1 hX hl hv
  go_enter Tryz.func87, Tryz.ntmps87
  go_wp2_with (first | (go_at_call 35; refine CX.out.mono ?_; rintro e w1 ⟨rfl, hb1⟩; have B1 := Kept.mk hb1; have E1 := Kept.mk (HE.out.below hb1); clear hb1 CX) | (go_at_call 35; refine (repl_call ⟨X.toArray⟩ ⟨#[13]⟩ ⟨#[10]⟩ w1 hz (by decide) rfl E1.out).mono ?_; rintro e w2 ⟨rfl, hb2⟩; have B2 := Kept.mk hb2; clear hb2))
  go_ret
  exact ⟨by rw [← HS.out]; rfl, B1.out.trans (B2.out.mono B1.out.size)⟩
/-- what a digit says; -1: it is none -/
def digI (hex : Bool) (c : Int) : Int := if 48 ≤ c ∧ c ≤ 57 then c - 48 else if hex = true ∧ 97 ≤ c ∧ c ≤ 102 then c - 87 else if hex = true ∧ 65 ≤ c ∧ c ≤ 70 then c - 55 else -1
theorem digit_any (hex : Bool) (c : Int) (w : World) (hc : -1 ≤ c) (hc2 : c ≤ 1114111) :
    Calls Tryz.prog 119 #[.int .i32 c, .bool hex] w fun e w' => e = .returned (.int .i32 (digI hex c)) ∧ w' = w := by
  generalize hD : digI hex c = D
  have HD := Kept.mk hD
  clear hD
  by_cases a1 : 48 ≤ c
  · by_cases a2 : c ≤ 57
    · cases hex
      · go_enter Tryz.func119, Tryz.ntmps119
        go_wp2
        go_ret
        exact ⟨ret_i32 (by rw [← HD.out]; unfold digI; simp only [Bool.false_eq_true, false_and, if_false]; (repeat' split) <;> omega), rfl⟩
      · go_enter Tryz.func119, Tryz.ntmps119
        go_wp2
        go_ret
        exact ⟨ret_i32 (by rw [← HD.out]; unfold digI; simp only [true_and]; (repeat' split) <;> omega), rfl⟩
    · cases hex
      · go_enter Tryz.func119, Tryz.ntmps119
        go_wp2
        go_ret
        exact ⟨ret_i32 (by rw [← HD.out]; unfold digI; simp only [Bool.false_eq_true, false_and, if_false]; (repeat' split) <;> omega), rfl⟩
      · by_cases a3 : 97 ≤ c
        · by_cases a4 : c ≤ 102
          · go_enter Tryz.func119, Tryz.ntmps119
            go_wp2
            go_ret
            exact ⟨ret_i32 (by rw [← HD.out]; unfold digI; simp only [true_and]; (repeat' split) <;> omega), rfl⟩
          · have a5 : 65 ≤ c := by omega
            have a6 : ¬ c ≤ 70 := by omega
            go_enter Tryz.func119, Tryz.ntmps119
            go_wp2
            go_ret
            exact ⟨ret_i32 (by rw [← HD.out]; unfold digI; simp only [true_and]; (repeat' split) <;> omega), rfl⟩
        · by_cases a5 : 65 ≤ c
          · by_cases a6 : c ≤ 70
            · go_enter Tryz.func119, Tryz.ntmps119
              go_wp2
              go_ret
              exact ⟨ret_i32 (by rw [← HD.out]; unfold digI; simp only [true_and]; (repeat' split) <;> omega), rfl⟩
            · go_enter Tryz.func119, Tryz.ntmps119
              go_wp2
              go_ret
              exact ⟨ret_i32 (by rw [← HD.out]; unfold digI; simp only [true_and]; (repeat' split) <;> omega), rfl⟩
          · go_enter Tryz.func119, Tryz.ntmps119
            go_wp2
            go_ret
            exact ⟨ret_i32 (by rw [← HD.out]; unfold digI; simp only [true_and]; (repeat' split) <;> omega), rfl⟩
  · cases hex
    · go_enter Tryz.func119, Tryz.ntmps119
      go_wp2
      go_ret
      exact ⟨ret_i32 (by rw [← HD.out]; unfold digI; simp only [Bool.false_eq_true, false_and, if_false]; (repeat' split) <;> omega), rfl⟩
    · have a3 : ¬ 97 ≤ c := by omega
      have a5 : ¬ 65 ≤ c := by omega
      go_enter Tryz.func119, Tryz.ntmps119
      go_wp2
      go_ret
      exact ⟨ret_i32 (by rw [← HD.out]; unfold digI; simp only [true_and]; (repeat' split) <;> omega), rfl⟩
end Go.Proofs.YtemfmidhekdekaaGreatDoor.Wps
namespace Go.Proofs.YtemfmidhekdekaaGreatDoor.Wps
open Go Go.RowKit Go.Proofs.YtemfmidhekdekaaGreatDoor.Kb Go.Proofs.YtemfmidhekdekaaGreatDoor.Wch

def digO (hex : Bool) : Ppa.Bs → Option Nat
  | y :: _ => Ppa.digB hex y
  | [] => none
theorem digI_peek (hex : Bool) (r : Ppa.Bs) : digI hex (Ppa.peek r) = match digO hex r with | some d => (d : Int) | none => -1 := by
  cases r with
  | nil => cases hex <;> rfl
  | cons y t =>
    have b0 : y.toNat < 256 := y.toNat_lt
    unfold digO Ppa.digB digI
    simp only [UInt8.le_iff_toNat_le]
    rcases Nat.lt_or_ge y.toNat 128 with hy | hy
    · rw [peek_low y t hy]
      have e1 : (48 : UInt8).toNat = 48 := rfl
      have e2 : (57 : UInt8).toNat = 57 := rfl
      have e3 : (97 : UInt8).toNat = 97 := rfl
      have e4 : (102 : UInt8).toNat = 102 := rfl
      have e5 : (65 : UInt8).toNat = 65 := rfl
      have e6 : (70 : UInt8).toNat = 70 := rfl
      rw [e1, e2, e3, e4, e5, e6]
      by_cases h1 : 48 ≤ y.toNat ∧ y.toNat ≤ 57
      · rw [if_pos h1, if_pos (by omega)]
        show _ = ((y.toNat - 48 : Nat) : Int)
        omega
      · rw [if_neg h1, if_neg (by omega)]
        cases hex with
        | false => simp
        | true =>
          simp only [true_and]
          by_cases h2 : 97 ≤ y.toNat ∧ y.toNat ≤ 102
          · rw [if_pos h2, if_pos (by omega)]
            show _ = ((y.toNat - 87 : Nat) : Int)
            omega
          · rw [if_neg h2, if_neg (by omega)]
            by_cases h3 : 65 ≤ y.toNat ∧ y.toNat ≤ 70
            · rw [if_pos h3, if_pos (by omega)]
              show _ = ((y.toNat - 55 : Nat) : Int)
              omega
            · rw [if_neg h3, if_neg (by omega)]
    · have h1 := peek_high y t hy
      have e1 : (48 : UInt8).toNat = 48 := rfl
      have e2 : (57 : UInt8).toNat = 57 := rfl
      have e3 : (97 : UInt8).toNat = 97 := rfl
      have e4 : (102 : UInt8).toNat = 102 := rfl
      have e5 : (65 : UInt8).toNat = 65 := rfl
      have e6 : (70 : UInt8).toNat = 70 := rfl
      rw [e1, e2, e3, e4, e5, e6, if_neg (by omega), if_neg (by omega), if_neg (by omega), if_neg (by omega), if_neg (by omega), if_neg (by omega)]
theorem numG_more {hex any : Bool} {n d : Nat} {r : Ppa.Bs} (h : digO hex r = some d) : Ppa.numG hex n any r = if 1114111 < n * (if hex then 16 else 10) + d then .error r else Ppa.numG hex (n * (if hex then 16 else 10) + d) true r.tail := by
  cases r with
  | nil => cases h
  | cons y t =>
    have h : Ppa.digB hex y = some d := h
    rw [Ppa.numG, h]
    rfl
theorem numG_end {hex any : Bool} {n : Nat} {r : Ppa.Bs} (h : digO hex r = none) : Ppa.numG hex n any r = if any = false ∨ Ppa.peek r ≠ 59 ∨ Pch.charB n = false then .error r else .ok (n, r.tail) := by
  cases r with
  | nil => rw [Ppa.numG, if_pos (.inr (.inl (by decide)))]
  | cons y t =>
    have h : Ppa.digB hex y = none := h
    have hp : Ppa.peek (y :: t) = 59 ↔ y = 59 := by
      have := peek_is 59 (by decide) (y :: t)
      simp only [List.head?_cons, Option.some.injEq] at this
      exact this
    rw [Ppa.numG, h]
    simp only [ne_eq, hp]
    rfl
theorem digO_ne {hex : Bool} {d : Nat} {r : Ppa.Bs} (h : digO hex r = some d) : ∃ y t, r = y :: t := by
  cases r with
  | nil => cases h
  | cons y t => exact ⟨y, t, rfl⟩
theorem digO_lt {hex : Bool} {d : Nat} {r : Ppa.Bs} (h : digO hex r = some d) : d ≤ 15 := by
  cases r with
  | nil => cases h
  | cons y t =>
    unfold digO Ppa.digB at h
    simp only [UInt8.le_iff_toNat_le] at h
    have e1 : (48 : UInt8).toNat = 48 := rfl
    have e2 : (57 : UInt8).toNat = 57 := rfl
    have e3 : (97 : UInt8).toNat = 97 := rfl
    have e4 : (102 : UInt8).toNat = 102 := rfl
    have e5 : (65 : UInt8).toNat = 65 := rfl
    have e6 : (70 : UInt8).toNat = 70 := rfl
    rw [e1, e2, e3, e4, e5, e6] at h
    split at h
    · injection h with h; omega
    · split at h
      · injection h with h; omega
      · split at h
        · injection h with h; omega
        · cases h
def numV (n : Nat) : Value := .int .i32 (n : Int)
theorem peek_lo (r : Ppa.Bs) : -1 ≤ Ppa.peek r ∧ Ppa.peek r ≤ 1114111 := by
  unfold Ppa.peek
  split
  · omega
  · have := Lib.decodeL_rune r
    omega
set_option maxRecDepth 100000 in
set_option maxHeartbeats 4000000 in
theorem number_hex {B b : Nat} {s : ByteArray} {x : List Value} {r : Ppa.Bs} {w : World} (h : Pa B b s x r w) (hx : r.head? = some 120) :
    Calls Tryz.prog 97 #[.pointer (some ⟨b, 0, none⟩)] w fun e w' => WaysV B b s x w numV (Ppa.numG true 0 false r.tail) e w' := by
  have hpk := peek_is 120 (by decide) r
  obtain ⟨t, rfl⟩ : ∃ t, r = 120 :: t := by
    cases r with
    | nil => cases hx
    | cons y t => exact ⟨t, by injection hx with e; rw [e]⟩
  have hq := hpk.2 hx
  have CM := Kept.mk (may_r 120 (by omega) h)
  have e1 : Ppa.peek (120 :: t) = 120 := hq
  rw [decide_eq_true e1, if_pos e1, skip_low 120 t (by decide)] at CM
  rw [List.tail_cons]
  clear hq hpk e1 hx h
  generalize hT : Ppa.numG true 0 false t = T
  have HT := Kept.mk hT
  clear hT
  go_enter Tryz.func97, Tryz.ntmps97
  go_wp2_with (go_at_call 58; refine CM.out.mono ?_; rintro e w1 ⟨rfl, hP1, hg1⟩; have G1 := Kept.mk hg1; clear hg1 CM; have hs9 := hP1.small; obtain ⟨k0, hk0, c1⟩ := hP1.cell)
  have bx1 := beh_cell c1
  refine wp_region_beh (by kernel_rfl) (by kernel_rfl) ?_
  repeat
    (refine Qw_step (fun K hK => ?_)
     go_simp
     first
       | (refine hK _ ?_; clear hK K)
       | (apply Exists.intro
          refine ⟨fun _ => ?_, hK _ ?_⟩
          (fail)
          clear hK K))
  refine Qw_nil ?_
  rintro w2 ⟨⟨_, hb2⟩, rfl⟩
  have H2 := hP1.below hb2
  have G2 := Kept.mk (G1.out.trans (grown_of_below hb2 (some b)))
  clear bx1 hb2 c1 G1 hP1
  go_wp2_with (first | (go_at_call 67; refine (peek_r H2).mono ?_; rintro e w3 ⟨rfl, hb3⟩; have H3 := H2.below hb3; have G3 := Kept.mk (G2.out.trans (grown_of_below hb3 (some b))); clear hb3; have hlo := (peek_lo t).1; have hhi := (peek_lo t).2) | (go_at_call 119; refine (digit_any true (Ppa.peek t) _ hlo hhi).mono ?_; rintro e w4 ⟨rfl, rfl⟩))
  go_loopg [5, 7] t.length (fun g n5 d7 wx => ∃ (n : Nat) (r' : Ppa.Bs) (any : Bool), n5 = .int .i32 (n : Int) ∧ d7 = .int .i32 (digI true (Ppa.peek r')) ∧ Pa B b s x r' wx ∧ Kept (w.grownBy wx (some b)) ∧ Kept (Ppa.numG true n any r' = T) ∧ n ≤ 1114111 ∧ Kept (any = true ↔ r'.length < t.length) ∧ r'.length ≤ g ∧ r'.length ≤ t.length)
  case atStart => exact ⟨0, t, false, rfl, rfl, H3, G3, HT, by omega, ⟨by simp⟩, Nat.le_refl _, Nat.le_refl _⟩
  case round =>
    obtain ⟨n, r', any, rfl, rfl, hP, G, HE, hn, hany, hle, hle2⟩ := hrel
    have hs8 := hP.small
    obtain ⟨k1, hk1, c1⟩ := hP.cell
    have f1 := hP.row.unf 1
    have j0 : (0 : Int) ≤ (n : Int) := by omega
    have j1 : (n : Int) ≤ 1114111 := by omega
    have j2 : (0 : Int) ≤ (k1 : Int) := by omega
    have j3 : (k1 : Int) ≤ 65536 := by omega
    rw [digI_peek]
    cases hd : digO true r' with
    | some d =>
      obtain ⟨y, t', rfl⟩ := digO_ne hd
      have hd15 := digO_lt hd
      have h1 := HE.out
      rw [numG_more hd] at h1
      simp only [List.tail_cons, if_true] at h1
      have j4 : (0 : Int) ≤ (d : Int) := by omega
      have j5 : (d : Int) ≤ 15 := by omega
      obtain ⟨g, rfl⟩ : ∃ g, gk = g + 1 := ⟨gk - 1, by simp at hle; omega⟩
      by_cases hbig : 1114111 < n * 16 + d
      · rw [if_pos hbig] at h1
        have HX : Kept (T = .error (y :: t')) := ⟨h1.symm⟩
        have j6 : (1114111 : Int) < (n : Int) * 16 + (d : Int) := by omega
        clear h1 hd hbig HE
        go_wp2_with (go_at_call 61; refine (no_r hP).mono ?_; rintro e w6 ⟨rfl, rfl⟩)
        exact ⟨rfl, G.out, by rw [HX.out]; exact ⟨rfl, hP.len⟩⟩
      · rw [if_neg hbig] at h1
        have HN := Kept.mk h1
        have j6 : ¬ (1114111 : Int) < (n : Int) * 16 + (d : Int) := by omega
        clear h1 hd HE
        have HP6 : Pa B b s x t' (wr.setCell ⟨b, 1, none⟩ (.int .i64 ((k1 : Int) + 1))) := hP.put ((List.suffix_cons _ _).trans hP.suf) (by simp at hk1; omega)
        have hlo := (peek_lo t').1
        have hhi := (peek_lo t').2
        go_wp2_with (first | (go_at_call 67; refine (peek_r HP6).mono ?_; rintro e w7 ⟨rfl, hb7⟩; have H7 := HP6.below hb7; have G7 := Kept.mk ((grown_set G.out 1 _).trans (grown_of_below hb7 (some b))); clear hb7) | (go_at_call 119; refine (digit_any true (Ppa.peek t') _ hlo hhi).mono ?_; rintro e w8 ⟨rfl, rfl⟩))
        go_roundg g
        case measure => omega
        case rel => exact ⟨n * 16 + d, t', true, by congr 1, rfl, H7, G7, HN, by omega, ⟨by simp at hle2 ⊢; omega⟩, by simp at hle; omega, by simp at hle2; omega⟩
    | none =>
      have h1 := HE.out
      rw [numG_end hd] at h1
      clear hd HE
      cases any with
      | false =>
        rw [if_pos (.inl rfl)] at h1
        have HX : Kept (T = .error r') := ⟨h1.symm⟩
        have e1 : ((k1 : Int) == (k0 : Int)) = true := by
          have : ¬ r'.length < t.length := fun e => by have := hany.out.2 e; cases this
          rw [beq_iff_eq]; omega
        clear h1
        go_wp2_with (go_at_call 61; refine (no_r hP).mono ?_; rintro e w6 ⟨rfl, rfl⟩)
        exact ⟨rfl, G.out, by rw [HX.out]; exact ⟨rfl, hP.len⟩⟩
      | true =>
        have e1 : ((k1 : Int) == (k0 : Int)) = false := by
          have := hany.out.1 rfl
          simp; omega
        by_cases hsc : Ppa.peek r' = 59
        · have e2 : (Ppa.peek r' == 59) = true := by rw [beq_iff_eq]; exact hsc
          have hne := peek_ne (r := r') (by omega)
          obtain ⟨y, t', rfl⟩ : ∃ y t, r' = y :: t := by
            cases r' with
            | nil => exact absurd rfl hne
            | cons y t => exact ⟨y, t, rfl⟩
          cases hch : Pch.charB n with
          | false =>
            rw [if_pos (.inr (.inr hch))] at h1
            have HX : Kept (T = .error (y :: t')) := ⟨h1.symm⟩
            have HC := Kept.mk hch
            clear h1 hch
            go_wp2_with (first | (go_at_call 67; refine (peek_r hP).mono ?_; rintro e w7 ⟨rfl, hb7⟩; have H7 := hP.below hb7; have G7 := Kept.mk (G.out.trans (grown_of_below hb7 (some b))); clear hb7) | (go_at_call 65; refine (char_any (n : Int) _).mono ?_; rintro e w8 ⟨rfl, rfl⟩; rw [HC.out]) | (go_at_call 61; refine (no_r H7).mono ?_; rintro e w6 ⟨rfl, rfl⟩))
            exact ⟨rfl, G7.out, by rw [HX.out]; exact ⟨rfl, H7.len⟩⟩
          | true =>
            rw [if_neg (by simp [hsc, hch]), List.tail_cons] at h1
            have HX : Kept (T = .ok (n, t')) := ⟨h1.symm⟩
            have HC := Kept.mk hch
            clear h1 hch
            go_wp2_with (first | (go_at_call 67; refine (peek_r hP).mono ?_; rintro e w7 ⟨rfl, hb7⟩; have H7 := hP.below hb7; have G7 := Kept.mk (G.out.trans (grown_of_below hb7 (some b))); clear hb7; have d1 := H7.row.c1; have f7 := H7.row.unf 1; rw [show s.size - (y :: t').length = k1 by omega] at d1) | (go_at_call 65; refine (char_any (n : Int) _).mono ?_; rintro e w8 ⟨rfl, rfl⟩; rw [HC.out]))
            go_ret
            exact ⟨grown_set G7.out 1 _, by rw [HX.out]; exact ⟨rfl, H7.put ((List.suffix_cons _ _).trans H7.suf) (by simp at hk1; omega)⟩⟩
        · have e2 : (Ppa.peek r' == 59) = false := by simpa using hsc
          rw [if_pos (.inr (.inl hsc))] at h1
          have HX : Kept (T = .error r') := ⟨h1.symm⟩
          clear h1
          go_wp2_with (first | (go_at_call 67; refine (peek_r hP).mono ?_; rintro e w7 ⟨rfl, hb7⟩; have H7 := hP.below hb7; have G7 := Kept.mk (G.out.trans (grown_of_below hb7 (some b))); clear hb7) | (go_at_call 61; refine (no_r H7).mono ?_; rintro e w6 ⟨rfl, rfl⟩))
          exact ⟨rfl, G7.out, by rw [HX.out]; exact ⟨rfl, H7.len⟩⟩
set_option maxRecDepth 100000 in
set_option maxHeartbeats 4000000 in
theorem number_dec {B b : Nat} {s : ByteArray} {x : List Value} {r : Ppa.Bs} {w : World} (h : Pa B b s x r w) (hx : r.head? ≠ some 120) :
    Calls Tryz.prog 97 #[.pointer (some ⟨b, 0, none⟩)] w fun e w' => WaysV B b s x w numV (Ppa.numG false 0 false r) e w' := by
  have hpk := peek_is 120 (by decide) r
  have hq : ¬ Ppa.peek r = 120 := fun e => hx (hpk.1 e)
  have CM := Kept.mk (may_r 120 (by omega) h)
  rw [decide_eq_false hq, if_neg hq] at CM
  clear hq hpk hx h
  generalize hT : Ppa.numG false 0 false r = T
  have HT := Kept.mk hT
  clear hT
  go_enter Tryz.func97, Tryz.ntmps97
  go_wp2_with (go_at_call 58; refine CM.out.mono ?_; rintro e w1 ⟨rfl, hP1, hg1⟩; have G1 := Kept.mk hg1; clear hg1 CM; have hs9 := hP1.small; obtain ⟨k0, hk0, c1⟩ := hP1.cell)
  have bx1 := beh_cell c1
  refine wp_region_beh (by kernel_rfl) (by kernel_rfl) ?_
  repeat
    (refine Qw_step (fun K hK => ?_)
     go_simp
     first
       | (refine hK _ ?_; clear hK K)
       | (apply Exists.intro
          refine ⟨fun _ => ?_, hK _ ?_⟩
          (fail)
          clear hK K))
  refine Qw_nil ?_
  rintro w2 ⟨⟨_, hb2⟩, rfl⟩
  have H2 := hP1.below hb2
  have G2 := Kept.mk (G1.out.trans (grown_of_below hb2 (some b)))
  clear bx1 hb2 c1 G1 hP1
  go_wp2_with (first | (go_at_call 67; refine (peek_r H2).mono ?_; rintro e w3 ⟨rfl, hb3⟩; have H3 := H2.below hb3; have G3 := Kept.mk (G2.out.trans (grown_of_below hb3 (some b))); clear hb3; have hlo := (peek_lo r).1; have hhi := (peek_lo r).2) | (go_at_call 119; refine (digit_any false (Ppa.peek r) _ hlo hhi).mono ?_; rintro e w4 ⟨rfl, rfl⟩))
  go_loopg [5, 7] r.length (fun g n5 d7 wx => ∃ (n : Nat) (r' : Ppa.Bs) (any : Bool), n5 = .int .i32 (n : Int) ∧ d7 = .int .i32 (digI false (Ppa.peek r')) ∧ Pa B b s x r' wx ∧ Kept (w.grownBy wx (some b)) ∧ Kept (Ppa.numG false n any r' = T) ∧ n ≤ 1114111 ∧ Kept (any = true ↔ r'.length < r.length) ∧ r'.length ≤ g ∧ r'.length ≤ r.length)
  case atStart => exact ⟨0, r, false, rfl, rfl, H3, G3, HT, by omega, ⟨by simp⟩, Nat.le_refl _, Nat.le_refl _⟩
  case round =>
    obtain ⟨n, r', any, rfl, rfl, hP, G, HE, hn, hany, hle, hle2⟩ := hrel
    have hs8 := hP.small
    obtain ⟨k1, hk1, c1⟩ := hP.cell
    have f1 := hP.row.unf 1
    have j0 : (0 : Int) ≤ (n : Int) := by omega
    have j1 : (n : Int) ≤ 1114111 := by omega
    have j2 : (0 : Int) ≤ (k1 : Int) := by omega
    have j3 : (k1 : Int) ≤ 65536 := by omega
    rw [digI_peek]
    cases hd : digO false r' with
    | some d =>
      obtain ⟨y, t', rfl⟩ := digO_ne hd
      have hd15 := digO_lt hd
      have h1 := HE.out
      rw [numG_more hd] at h1
      simp only [List.tail_cons, Bool.false_eq_true, if_false] at h1
      have j4 : (0 : Int) ≤ (d : Int) := by omega
      have j5 : (d : Int) ≤ 15 := by omega
      obtain ⟨g, rfl⟩ : ∃ g, gk = g + 1 := ⟨gk - 1, by simp at hle; omega⟩
      by_cases hbig : 1114111 < n * 10 + d
      · rw [if_pos hbig] at h1
        have HX : Kept (T = .error (y :: t')) := ⟨h1.symm⟩
        have j6 : (1114111 : Int) < (n : Int) * 10 + (d : Int) := by omega
        clear h1 hd hbig HE
        go_wp2_with (go_at_call 61; refine (no_r hP).mono ?_; rintro e w6 ⟨rfl, rfl⟩)
        exact ⟨rfl, G.out, by rw [HX.out]; exact ⟨rfl, hP.len⟩⟩
      · rw [if_neg hbig] at h1
        have HN := Kept.mk h1
        have j6 : ¬ (1114111 : Int) < (n : Int) * 10 + (d : Int) := by omega
        clear h1 hd HE
        have HP6 : Pa B b s x t' (wr.setCell ⟨b, 1, none⟩ (.int .i64 ((k1 : Int) + 1))) := hP.put ((List.suffix_cons _ _).trans hP.suf) (by simp at hk1; omega)
        have hlo := (peek_lo t').1
        have hhi := (peek_lo t').2
        go_wp2_with (first | (go_at_call 67; refine (peek_r HP6).mono ?_; rintro e w7 ⟨rfl, hb7⟩; have H7 := HP6.below hb7; have G7 := Kept.mk ((grown_set G.out 1 _).trans (grown_of_below hb7 (some b))); clear hb7) | (go_at_call 119; refine (digit_any false (Ppa.peek t') _ hlo hhi).mono ?_; rintro e w8 ⟨rfl, rfl⟩))
        go_roundg g
        case measure => omega
        case rel => exact ⟨n * 10 + d, t', true, by congr 1, rfl, H7, G7, HN, by omega, ⟨by simp at hle2 ⊢; omega⟩, by simp at hle; omega, by simp at hle2; omega⟩
    | none =>
      have h1 := HE.out
      rw [numG_end hd] at h1
      clear hd HE
      cases any with
      | false =>
        rw [if_pos (.inl rfl)] at h1
        have HX : Kept (T = .error r') := ⟨h1.symm⟩
        have e1 : ((k1 : Int) == (k0 : Int)) = true := by
          have : ¬ r'.length < r.length := fun e => by have := hany.out.2 e; cases this
          rw [beq_iff_eq]; omega
        clear h1
        go_wp2_with (go_at_call 61; refine (no_r hP).mono ?_; rintro e w6 ⟨rfl, rfl⟩)
        exact ⟨rfl, G.out, by rw [HX.out]; exact ⟨rfl, hP.len⟩⟩
      | true =>
        have e1 : ((k1 : Int) == (k0 : Int)) = false := by
          have := hany.out.1 rfl
          simp; omega
        by_cases hsc : Ppa.peek r' = 59
        · have e2 : (Ppa.peek r' == 59) = true := by rw [beq_iff_eq]; exact hsc
          have hne := peek_ne (r := r') (by omega)
          obtain ⟨y, t', rfl⟩ : ∃ y t, r' = y :: t := by
            cases r' with
            | nil => exact absurd rfl hne
            | cons y t => exact ⟨y, t, rfl⟩
          cases hch : Pch.charB n with
          | false =>
            rw [if_pos (.inr (.inr hch))] at h1
            have HX : Kept (T = .error (y :: t')) := ⟨h1.symm⟩
            have HC := Kept.mk hch
            clear h1 hch
            go_wp2_with (first | (go_at_call 67; refine (peek_r hP).mono ?_; rintro e w7 ⟨rfl, hb7⟩; have H7 := hP.below hb7; have G7 := Kept.mk (G.out.trans (grown_of_below hb7 (some b))); clear hb7) | (go_at_call 65; refine (char_any (n : Int) _).mono ?_; rintro e w8 ⟨rfl, rfl⟩; rw [HC.out]) | (go_at_call 61; refine (no_r H7).mono ?_; rintro e w6 ⟨rfl, rfl⟩))
            exact ⟨rfl, G7.out, by rw [HX.out]; exact ⟨rfl, H7.len⟩⟩
          | true =>
            rw [if_neg (by simp [hsc, hch]), List.tail_cons] at h1
            have HX : Kept (T = .ok (n, t')) := ⟨h1.symm⟩
            have HC := Kept.mk hch
            clear h1 hch
            go_wp2_with (first | (go_at_call 67; refine (peek_r hP).mono ?_; rintro e w7 ⟨rfl, hb7⟩; have H7 := hP.below hb7; have G7 := Kept.mk (G.out.trans (grown_of_below hb7 (some b))); clear hb7; have d1 := H7.row.c1; have f7 := H7.row.unf 1; rw [show s.size - (y :: t').length = k1 by omega] at d1) | (go_at_call 65; refine (char_any (n : Int) _).mono ?_; rintro e w8 ⟨rfl, rfl⟩; rw [HC.out]))
            go_ret
            exact ⟨grown_set G7.out 1 _, by rw [HX.out]; exact ⟨rfl, H7.put ((List.suffix_cons _ _).trans H7.suf) (by simp at hk1; omega)⟩⟩
        · have e2 : (Ppa.peek r' == 59) = false := by simpa using hsc
          rw [if_pos (.inr (.inl hsc))] at h1
          have HX : Kept (T = .error r') := ⟨h1.symm⟩
          clear h1
          go_wp2_with (first | (go_at_call 67; refine (peek_r hP).mono ?_; rintro e w7 ⟨rfl, hb7⟩; have H7 := hP.below hb7; have G7 := Kept.mk (G.out.trans (grown_of_below hb7 (some b))); clear hb7) | (go_at_call 61; refine (no_r H7).mono ?_; rintro e w6 ⟨rfl, rfl⟩))
          exact ⟨rfl, G7.out, by rw [HX.out]; exact ⟨rfl, H7.len⟩⟩
end Go.Proofs.YtemfmidhekdekaaGreatDoor.Wps
namespace Go.Proofs.YtemfmidhekdekaaGreatDoor.Wps
open Go Go.RowKit Go.Proofs.YtemfmidhekdekaaGreatDoor.Kb Go.Proofs.YtemfmidhekdekaaGreatDoor.Wch

theorem head_cons {r : Ppa.Bs} {c : UInt8} (h : r.head? = some c) : ∃ t, r = c :: t := by
  cases r with
  | nil => cases h
  | cons y t => exact ⟨t, by injection h with e; rw [e]⟩
theorem number_r {B b : Nat} {s : ByteArray} {x : List Value} {r : Ppa.Bs} {w : World} (h : Pa B b s x r w) :
    Calls Tryz.prog 97 #[.pointer (some ⟨b, 0, none⟩)] w fun e w' => WaysV B b s x w numV (Ppa.numM r) e w' := by
  by_cases hx : r.head? = some 120
  · have h1 := number_hex h hx
    obtain ⟨t, rfl⟩ := head_cons hx
    exact h1
  · have h1 := number_dec h hx
    have e : Ppa.numM r = Ppa.numG false 0 false r := by
      unfold Ppa.numM
      split
      · exact absurd rfl hx
      · rfl
    rw [e]
    exact h1
def isM (a : Ppa.Bs) (n : Nat) (r : Ppa.Bs) : Except Ppa.Bs (Nat × Ppa.Bs) := match Ppa.mustL a r with | .ok t => .ok (n, t) | .error t => .error t
theorem refM_num (t : Ppa.Bs) : Ppa.refM (35 :: t) = Ppa.numM t := rfl
theorem refM_l (t : Ppa.Bs) : Ppa.refM (108 :: t) = isM [108, 116, 59] 60 (108 :: t) := rfl
theorem refM_g (t : Ppa.Bs) : Ppa.refM (103 :: t) = isM [103, 116, 59] 62 (103 :: t) := rfl
theorem refM_q (t : Ppa.Bs) : Ppa.refM (113 :: t) = isM [113, 117, 111, 116, 59] 34 (113 :: t) := rfl
theorem refM_am (t : Ppa.Bs) : Ppa.refM (97 :: 109 :: t) = isM [109, 112, 59] 38 (109 :: t) := rfl
theorem refM_a {t : Ppa.Bs} (h : t.head? ≠ some 109) : Ppa.refM (97 :: t) = isM [112, 111, 115, 59] 39 t := by
  cases t with
  | nil => rfl
  | cons y u =>
    unfold Ppa.refM
    split
    · rename_i e; cases e
    · rename_i e; cases e
    · rename_i e; cases e
    · rename_i e; cases e
    · rename_i e; injection e with _ e; injection e with e _; exact absurd (by rw [e]; rfl) h
    · rename_i e; injection e with _ e; subst e; rfl
    · rename_i e; exact absurd rfl (e _)
theorem refM_none {r : Ppa.Bs} (h1 : r.head? ≠ some 35) (h2 : r.head? ≠ some 108) (h3 : r.head? ≠ some 103) (h4 : r.head? ≠ some 113) (h5 : r.head? ≠ some 97) : Ppa.refM r = .error r := by
  unfold Ppa.refM
  split
  · exact absurd rfl h1
  · exact absurd rfl h2
  · exact absurd rfl h3
  · exact absurd rfl h4
  · exact absurd rfl h5
  · exact absurd rfl h5
  · rfl
theorem low_lit {l : List UInt8} (h : l.all (fun c => decide (c.toNat < 128)) = true) : ∀ c ∈ (⟨l.toArray⟩ : ByteArray).data.toList, c.toNat < 128 := by
  intro c hc
  have := List.all_eq_true.1 h c (by simpa using hc)
  simpa using this
/-- a fixed word, when what comes of it is known -/
theorem must_ok {B b : Nat} {s : ByteArray} {x : List Value} {r t : Ppa.Bs} {w : World} (l : List UInt8) (hl : l.all (fun c => decide (c.toNat < 128)) = true) (h : Pa B b s x r w) (hm : Ppa.mustL l r = .ok t) :
    Calls Tryz.prog 57 #[.pointer (some ⟨b, 0, none⟩), .string ⟨l.toArray⟩] w fun e w' => e = .returned (.tuple #[]) ∧ Pa B b s x t w' ∧ w.grownBy w' (some b) := by
  refine (must_r ⟨l.toArray⟩ (low_lit hl) h).mono ?_
  intro e w' hw
  obtain ⟨hg, hw⟩ := hw
  simp only [hm] at hw
  exact ⟨hw.1, hw.2, hg⟩
theorem must_no {B b : Nat} {s : ByteArray} {x : List Value} {r t : Ppa.Bs} {w : World} (l : List UInt8) (hl : l.all (fun c => decide (c.toNat < 128)) = true) (h : Pa B b s x r w) (hm : Ppa.mustL l r = .error t) :
    Calls Tryz.prog 57 #[.pointer (some ⟨b, 0, none⟩), .string ⟨l.toArray⟩] w fun e w' => Gone (s.size - t.length) e ∧ t.length ≤ s.size ∧ w.grownBy w' (some b) := by
  refine (must_r ⟨l.toArray⟩ (low_lit hl) h).mono ?_
  intro e w' hw
  obtain ⟨hg, hw⟩ := hw
  simp only [hm] at hw
  exact ⟨hw.1, hw.2, hg⟩
set_option maxRecDepth 100000 in
set_option maxHeartbeats 2000000 in
theorem reference_lit {B b : Nat} {s : ByteArray} {x : List Value} {r : Ppa.Bs} {w : World} (h : Pa B b s x r w) (c : UInt8) (l : List UInt8) (n : Nat) (hx : r.head? = some c) (hc : (c = 108 ∧ l = [108, 116, 59] ∧ n = 60) ∨ (c = 103 ∧ l = [103, 116, 59] ∧ n = 62) ∨ (c = 113 ∧ l = [113, 117, 111, 116, 59] ∧ n = 34)) :
    Calls Tryz.prog 71 #[.pointer (some ⟨b, 0, none⟩)] w fun e w' => WaysV B b s x w numV (isM l n r) e w' := by
  unfold isM
  rcases hc with ⟨rfl, rfl, rfl⟩ | ⟨rfl, rfl, rfl⟩ | ⟨rfl, rfl, rfl⟩
  · have HQ := Kept.mk ((peek_is 108 (by decide) r).2 hx)
    have e0 : ((108 : UInt8).toNat : Int) = 108 := rfl
    rw [e0] at HQ
    clear hx e0
    cases hm : Ppa.mustL [108, 116, 59] r with
    | ok t =>
      have HM := Kept.mk hm
      clear hm
      go_enter Tryz.func71, Tryz.ntmps71
      go_wp2_with (first | (go_at_call 67; refine (peek_r h).mono ?_; rintro e w1 ⟨rfl, hb1⟩; rw [HQ.out]; have H1 := h.below hb1; have G1 := Kept.mk (grown_of_below hb1 (some b)); clear hb1) | (go_at_call 57; refine (must_ok [108, 116, 59] (by decide) H1 HM.out).mono ?_; rintro e w2 ⟨rfl, hP2, hg2⟩; have G2 := Kept.mk (G1.out.trans hg2); clear hg2))
      go_ret
      exact ⟨G2.out, rfl, hP2⟩
    | error t =>
      have HM := Kept.mk hm
      clear hm
      go_enter Tryz.func71, Tryz.ntmps71
      go_wp2_with (first | (go_at_call 67; refine (peek_r h).mono ?_; rintro e w1 ⟨rfl, hb1⟩; rw [HQ.out]; have H1 := h.below hb1; have G1 := Kept.mk (grown_of_below hb1 (some b)); clear hb1) | (go_at_call 57; refine (must_no [108, 116, 59] (by decide) H1 HM.out).mono ?_; rintro e w2 ⟨rfl, hl2, hg2⟩; have G2 := Kept.mk (G1.out.trans hg2); clear hg2))
      exact ⟨rfl, G2.out, rfl, hl2⟩
  · have HQ := Kept.mk ((peek_is 103 (by decide) r).2 hx)
    have e0 : ((103 : UInt8).toNat : Int) = 103 := rfl
    rw [e0] at HQ
    clear hx e0
    cases hm : Ppa.mustL [103, 116, 59] r with
    | ok t =>
      have HM := Kept.mk hm
      clear hm
      go_enter Tryz.func71, Tryz.ntmps71
      go_wp2_with (first | (go_at_call 67; refine (peek_r h).mono ?_; rintro e w1 ⟨rfl, hb1⟩; rw [HQ.out]; have H1 := h.below hb1; have G1 := Kept.mk (grown_of_below hb1 (some b)); clear hb1) | (go_at_call 57; refine (must_ok [103, 116, 59] (by decide) H1 HM.out).mono ?_; rintro e w2 ⟨rfl, hP2, hg2⟩; have G2 := Kept.mk (G1.out.trans hg2); clear hg2))
      go_ret
      exact ⟨G2.out, rfl, hP2⟩
    | error t =>
      have HM := Kept.mk hm
      clear hm
      go_enter Tryz.func71, Tryz.ntmps71
      go_wp2_with (first | (go_at_call 67; refine (peek_r h).mono ?_; rintro e w1 ⟨rfl, hb1⟩; rw [HQ.out]; have H1 := h.below hb1; have G1 := Kept.mk (grown_of_below hb1 (some b)); clear hb1) | (go_at_call 57; refine (must_no [103, 116, 59] (by decide) H1 HM.out).mono ?_; rintro e w2 ⟨rfl, hl2, hg2⟩; have G2 := Kept.mk (G1.out.trans hg2); clear hg2))
      exact ⟨rfl, G2.out, rfl, hl2⟩
  · have HQ := Kept.mk ((peek_is 113 (by decide) r).2 hx)
    have e0 : ((113 : UInt8).toNat : Int) = 113 := rfl
    rw [e0] at HQ
    clear hx e0
    cases hm : Ppa.mustL [113, 117, 111, 116, 59] r with
    | ok t =>
      have HM := Kept.mk hm
      clear hm
      go_enter Tryz.func71, Tryz.ntmps71
      go_wp2_with (first | (go_at_call 67; refine (peek_r h).mono ?_; rintro e w1 ⟨rfl, hb1⟩; rw [HQ.out]; have H1 := h.below hb1; have G1 := Kept.mk (grown_of_below hb1 (some b)); clear hb1) | (go_at_call 57; refine (must_ok [113, 117, 111, 116, 59] (by decide) H1 HM.out).mono ?_; rintro e w2 ⟨rfl, hP2, hg2⟩; have G2 := Kept.mk (G1.out.trans hg2); clear hg2))
      go_ret
      exact ⟨G2.out, rfl, hP2⟩
    | error t =>
      have HM := Kept.mk hm
      clear hm
      go_enter Tryz.func71, Tryz.ntmps71
      go_wp2_with (first | (go_at_call 67; refine (peek_r h).mono ?_; rintro e w1 ⟨rfl, hb1⟩; rw [HQ.out]; have H1 := h.below hb1; have G1 := Kept.mk (grown_of_below hb1 (some b)); clear hb1) | (go_at_call 57; refine (must_no [113, 117, 111, 116, 59] (by decide) H1 HM.out).mono ?_; rintro e w2 ⟨rfl, hl2, hg2⟩; have G2 := Kept.mk (G1.out.trans hg2); clear hg2))
      exact ⟨rfl, G2.out, rfl, hl2⟩
end Go.Proofs.YtemfmidhekdekaaGreatDoor.Wps
namespace Go.Proofs.YtemfmidhekdekaaGreatDoor.Wps
open Go Go.RowKit Go.Proofs.YtemfmidhekdekaaGreatDoor.Kb Go.Proofs.YtemfmidhekdekaaGreatDoor.Wch

theorem ways_ok {α : Type} {B b f : Nat} {s : ByteArray} {x : List Value} {w : World} {args : Array Value} {val : α → Value} {o : Except Ppa.Bs (α × Ppa.Bs)} {v : α} {r : Ppa.Bs} (h : Calls Tryz.prog f args w fun e w' => WaysV B b s x w val o e w') (ho : o = .ok (v, r)) :
    Calls Tryz.prog f args w fun e w' => e = .returned (val v) ∧ Pa B b s x r w' ∧ w.grownBy w' (some b) := by
  subst ho
  exact h.mono fun _ _ ⟨hg, he, hp⟩ => ⟨he, hp, hg⟩
theorem ways_no {α : Type} {B b f : Nat} {s : ByteArray} {x : List Value} {w : World} {args : Array Value} {val : α → Value} {o : Except Ppa.Bs (α × Ppa.Bs)} {r : Ppa.Bs} (h : Calls Tryz.prog f args w fun e w' => WaysV B b s x w val o e w') (ho : o = .error r) :
    Calls Tryz.prog f args w fun e w' => Gone (s.size - r.length) e ∧ r.length ≤ s.size ∧ w.grownBy w' (some b) := by
  subst ho
  exact h.mono fun _ _ ⟨hg, he, hp⟩ => ⟨he, hp, hg⟩
set_option maxRecDepth 100000 in
set_option maxHeartbeats 2000000 in
theorem reference_num {B b : Nat} {s : ByteArray} {x : List Value} {t : Ppa.Bs} {w : World} (h : Pa B b s x (35 :: t) w) :
    Calls Tryz.prog 71 #[.pointer (some ⟨b, 0, none⟩)] w fun e w' => WaysV B b s x w numV (Ppa.numM t) e w' := by
  have HQ : Kept (Ppa.peek (35 :: t) = 35) := ⟨(peek_is 35 (by decide) _).2 rfl⟩
  cases hm : Ppa.numM t with
  | ok p =>
    obtain ⟨n, t'⟩ := p
    have HM := Kept.mk hm
    clear hm
    go_enter Tryz.func71, Tryz.ntmps71
    go_wp2_with (first | (go_at_call 67; refine (peek_r h).mono ?_; rintro e w1 ⟨rfl, hb1⟩; rw [HQ.out]; have H1 := h.below hb1; have G1 := Kept.mk (grown_of_below hb1 (some b)); clear hb1; have hs9 := H1.small; obtain ⟨k, hk, c1⟩ := H1.cell; have f1 := H1.row.unf 1; have k0 : (0 : Int) ≤ (k : Int) := (by omega); have k1 : (k : Int) ≤ 65536 := (by omega); have HP3 : Pa B b s x t (w1.setCell ⟨b, 1, none⟩ (.int .i64 ((k : Int) + 1))) := H1.put ((List.suffix_cons _ _).trans H1.suf) (by simp at hk; omega); have G3 := Kept.mk (grown_set G1.out 1 (.int .i64 ((k : Int) + 1)))) | (go_at_call 97; refine (ways_ok (number_r HP3) HM.out).mono ?_; rintro e w2 ⟨rfl, hP2, hg2⟩; have G2 := Kept.mk (G3.out.trans hg2); clear hg2))
    go_ret
    exact ⟨G2.out, rfl, hP2⟩
  | error t' =>
    have HM := Kept.mk hm
    clear hm
    go_enter Tryz.func71, Tryz.ntmps71
    go_wp2_with (first | (go_at_call 67; refine (peek_r h).mono ?_; rintro e w1 ⟨rfl, hb1⟩; rw [HQ.out]; have H1 := h.below hb1; have G1 := Kept.mk (grown_of_below hb1 (some b)); clear hb1; have hs9 := H1.small; obtain ⟨k, hk, c1⟩ := H1.cell; have f1 := H1.row.unf 1; have k0 : (0 : Int) ≤ (k : Int) := (by omega); have k1 : (k : Int) ≤ 65536 := (by omega); have HP3 : Pa B b s x t (w1.setCell ⟨b, 1, none⟩ (.int .i64 ((k : Int) + 1))) := H1.put ((List.suffix_cons _ _).trans H1.suf) (by simp at hk; omega); have G3 := Kept.mk (grown_set G1.out 1 (.int .i64 ((k : Int) + 1)))) | (go_at_call 97; refine (ways_no (number_r HP3) HM.out).mono ?_; rintro e w2 ⟨rfl, hl2, hg2⟩; have G2 := Kept.mk (G3.out.trans hg2); clear hg2))
    exact ⟨rfl, G2.out, rfl, hl2⟩
theorem mustL_one_ok (c : UInt8) (t : Ppa.Bs) : Ppa.mustL [c] (c :: t) = .ok t := by simp [Ppa.mustL]
theorem mustL_one_no {c : UInt8} {r : Ppa.Bs} (h : r.head? ≠ some c) : Ppa.mustL [c] r = .error r := mustL_ne h
set_option maxRecDepth 100000 in
set_option maxHeartbeats 2000000 in
theorem reference_none {B b : Nat} {s : ByteArray} {x : List Value} {r : Ppa.Bs} {w : World} (h : Pa B b s x r w) (h1 : r.head? ≠ some 35) (h2 : r.head? ≠ some 108) (h3 : r.head? ≠ some 103) (h4 : r.head? ≠ some 113) (h5 : r.head? ≠ some 97) :
    Calls Tryz.prog 71 #[.pointer (some ⟨b, 0, none⟩)] w fun e w' => WaysV B b s x w numV (.error r) e w' := by
  have p1 : ¬ Ppa.peek r = 35 := fun e => h1 ((peek_is 35 (by decide) r).1 e)
  have p2 : ¬ Ppa.peek r = 108 := fun e => h2 ((peek_is 108 (by decide) r).1 e)
  have p3 : ¬ Ppa.peek r = 103 := fun e => h3 ((peek_is 103 (by decide) r).1 e)
  have p4 : ¬ Ppa.peek r = 113 := fun e => h4 ((peek_is 113 (by decide) r).1 e)
  have HM := Kept.mk (mustL_one_no h5)
  have q1 : (Ppa.peek r == 35) = false := by simpa using p1
  have q2 : (Ppa.peek r == 108) = false := by simpa using p2
  have q3 : (Ppa.peek r == 103) = false := by simpa using p3
  have q4 : (Ppa.peek r == 113) = false := by simpa using p4
  clear h1 h2 h3 h4 h5
  go_enter Tryz.func71, Tryz.ntmps71
  go_wp2_with (first | (go_at_call 67; refine (peek_r h).mono ?_; rintro e w1 ⟨rfl, hb1⟩; have H1 := h.below hb1; have G1 := Kept.mk (grown_of_below hb1 (some b)); clear hb1) | (go_at_call 57; refine (must_no [97] (by decide) H1 HM.out).mono ?_; rintro e w2 ⟨rfl, hl2, hg2⟩; have G2 := Kept.mk (G1.out.trans hg2); clear hg2))
  exact ⟨rfl, G2.out, rfl, hl2⟩
set_option maxRecDepth 100000 in
set_option maxHeartbeats 2000000 in
theorem reference_amp_ok {B b : Nat} {s : ByteArray} {x : List Value} {t t' : Ppa.Bs} {w : World} (h : Pa B b s x (97 :: t) w) (hx : t.head? = some 109) (hm : Ppa.mustL [109, 112, 59] t = .ok t') :
    Calls Tryz.prog 71 #[.pointer (some ⟨b, 0, none⟩)] w fun e w' => WaysV B b s x w numV (.ok (38, t')) e w' := by
  have HQ : Kept (Ppa.peek (97 :: t) = 97) := ⟨(peek_is 97 (by decide) _).2 rfl⟩
  have hp : Ppa.peek t = 109 := (peek_is 109 (by decide) t).2 hx
  have HM := Kept.mk hm
  have HA := Kept.mk (mustL_one_ok 97 t)
  clear hx hm
  have TAG : Kept (0 = 0) := ⟨rfl⟩
  go_enter Tryz.func71, Tryz.ntmps71
  go_wp2_with (first | (go_at_call 67; clear TAG; refine (peek_r h).mono ?_; rintro e w1 ⟨rfl, hb1⟩; rw [HQ.out]; have H1 := h.below hb1; have G1 := Kept.mk (grown_of_below hb1 (some b)); clear hb1; have TAG2 : Kept (1 = 1) := ⟨rfl⟩) | (go_at_call 57; clear TAG2; refine (must_ok [97] (by decide) H1 HA.out).mono ?_; rintro e w2 ⟨rfl, hP2, hg2⟩; have G2 := Kept.mk (G1.out.trans hg2); clear hg2) | (go_at_call 67; refine (peek_r hP2).mono ?_; rintro e w3 ⟨rfl, hb3⟩; have H3 := hP2.below hb3; have G3 := Kept.mk (G2.out.trans (grown_of_below hb3 (some b))); clear hb3) | (go_at_call 57; refine (must_ok [109, 112, 59] (by decide) H3 HM.out).mono ?_; rintro e w4 ⟨rfl, hP4, hg4⟩; have G4 := Kept.mk (G3.out.trans hg4); clear hg4))
  go_ret
  exact ⟨G4.out, rfl, hP4⟩
set_option maxRecDepth 100000 in
set_option maxHeartbeats 2000000 in
theorem reference_amp_no {B b : Nat} {s : ByteArray} {x : List Value} {t t' : Ppa.Bs} {w : World} (h : Pa B b s x (97 :: t) w) (hx : t.head? = some 109) (hm : Ppa.mustL [109, 112, 59] t = .error t') :
    Calls Tryz.prog 71 #[.pointer (some ⟨b, 0, none⟩)] w fun e w' => WaysV B b s x w numV (.error t') e w' := by
  have HQ : Kept (Ppa.peek (97 :: t) = 97) := ⟨(peek_is 97 (by decide) _).2 rfl⟩
  have hp : Ppa.peek t = 109 := (peek_is 109 (by decide) t).2 hx
  have HM := Kept.mk hm
  have HA := Kept.mk (mustL_one_ok 97 t)
  clear hx hm
  have TAG : Kept (0 = 0) := ⟨rfl⟩
  go_enter Tryz.func71, Tryz.ntmps71
  go_wp2_with (first | (go_at_call 67; clear TAG; refine (peek_r h).mono ?_; rintro e w1 ⟨rfl, hb1⟩; rw [HQ.out]; have H1 := h.below hb1; have G1 := Kept.mk (grown_of_below hb1 (some b)); clear hb1; have TAG2 : Kept (1 = 1) := ⟨rfl⟩) | (go_at_call 57; clear TAG2; refine (must_ok [97] (by decide) H1 HA.out).mono ?_; rintro e w2 ⟨rfl, hP2, hg2⟩; have G2 := Kept.mk (G1.out.trans hg2); clear hg2) | (go_at_call 67; refine (peek_r hP2).mono ?_; rintro e w3 ⟨rfl, hb3⟩; have H3 := hP2.below hb3; have G3 := Kept.mk (G2.out.trans (grown_of_below hb3 (some b))); clear hb3) | (go_at_call 57; refine (must_no [109, 112, 59] (by decide) H3 HM.out).mono ?_; rintro e w4 ⟨rfl, hl4, hg4⟩; have G4 := Kept.mk (G3.out.trans hg4); clear hg4))
  exact ⟨rfl, G4.out, rfl, hl4⟩
set_option maxRecDepth 100000 in
set_option maxHeartbeats 2000000 in
theorem reference_apos_ok {B b : Nat} {s : ByteArray} {x : List Value} {t t' : Ppa.Bs} {w : World} (h : Pa B b s x (97 :: t) w) (hx : t.head? ≠ some 109) (hm : Ppa.mustL [112, 111, 115, 59] t = .ok t') :
    Calls Tryz.prog 71 #[.pointer (some ⟨b, 0, none⟩)] w fun e w' => WaysV B b s x w numV (.ok (39, t')) e w' := by
  have HQ : Kept (Ppa.peek (97 :: t) = 97) := ⟨(peek_is 97 (by decide) _).2 rfl⟩
  have hp : ¬ Ppa.peek t = 109 := fun e => hx ((peek_is 109 (by decide) t).1 e)
  have HM := Kept.mk hm
  have HA := Kept.mk (mustL_one_ok 97 t)
  clear hx hm
  have TAG : Kept (0 = 0) := ⟨rfl⟩
  go_enter Tryz.func71, Tryz.ntmps71
  go_wp2_with (first | (go_at_call 67; clear TAG; refine (peek_r h).mono ?_; rintro e w1 ⟨rfl, hb1⟩; rw [HQ.out]; have H1 := h.below hb1; have G1 := Kept.mk (grown_of_below hb1 (some b)); clear hb1; have TAG2 : Kept (1 = 1) := ⟨rfl⟩) | (go_at_call 57; clear TAG2; refine (must_ok [97] (by decide) H1 HA.out).mono ?_; rintro e w2 ⟨rfl, hP2, hg2⟩; have G2 := Kept.mk (G1.out.trans hg2); clear hg2) | (go_at_call 67; refine (peek_r hP2).mono ?_; rintro e w3 ⟨rfl, hb3⟩; have H3 := hP2.below hb3; have G3 := Kept.mk (G2.out.trans (grown_of_below hb3 (some b))); clear hb3) | (go_at_call 57; refine (must_ok [112, 111, 115, 59] (by decide) H3 HM.out).mono ?_; rintro e w4 ⟨rfl, hP4, hg4⟩; have G4 := Kept.mk (G3.out.trans hg4); clear hg4))
  go_ret
  exact ⟨G4.out, rfl, hP4⟩
set_option maxRecDepth 100000 in
set_option maxHeartbeats 2000000 in
theorem reference_apos_no {B b : Nat} {s : ByteArray} {x : List Value} {t t' : Ppa.Bs} {w : World} (h : Pa B b s x (97 :: t) w) (hx : t.head? ≠ some 109) (hm : Ppa.mustL [112, 111, 115, 59] t = .error t') :
    Calls Tryz.prog 71 #[.pointer (some ⟨b, 0, none⟩)] w fun e w' => WaysV B b s x w numV (.error t') e w' := by
  have HQ : Kept (Ppa.peek (97 :: t) = 97) := ⟨(peek_is 97 (by decide) _).2 rfl⟩
  have hp : ¬ Ppa.peek t = 109 := fun e => hx ((peek_is 109 (by decide) t).1 e)
  have HM := Kept.mk hm
  have HA := Kept.mk (mustL_one_ok 97 t)
  clear hx hm
  have TAG : Kept (0 = 0) := ⟨rfl⟩
  go_enter Tryz.func71, Tryz.ntmps71
  go_wp2_with (first | (go_at_call 67; clear TAG; refine (peek_r h).mono ?_; rintro e w1 ⟨rfl, hb1⟩; rw [HQ.out]; have H1 := h.below hb1; have G1 := Kept.mk (grown_of_below hb1 (some b)); clear hb1; have TAG2 : Kept (1 = 1) := ⟨rfl⟩) | (go_at_call 57; clear TAG2; refine (must_ok [97] (by decide) H1 HA.out).mono ?_; rintro e w2 ⟨rfl, hP2, hg2⟩; have G2 := Kept.mk (G1.out.trans hg2); clear hg2) | (go_at_call 67; refine (peek_r hP2).mono ?_; rintro e w3 ⟨rfl, hb3⟩; have H3 := hP2.below hb3; have G3 := Kept.mk (G2.out.trans (grown_of_below hb3 (some b))); clear hb3) | (go_at_call 57; refine (must_no [112, 111, 115, 59] (by decide) H3 HM.out).mono ?_; rintro e w4 ⟨rfl, hl4, hg4⟩; have G4 := Kept.mk (G3.out.trans hg4); clear hg4))
  exact ⟨rfl, G4.out, rfl, hl4⟩
theorem reference_r {B b : Nat} {s : ByteArray} {x : List Value} {r : Ppa.Bs} {w : World} (h : Pa B b s x r w) :
    Calls Tryz.prog 71 #[.pointer (some ⟨b, 0, none⟩)] w fun e w' => WaysV B b s x w numV (Ppa.refM r) e w' := by
  by_cases h1 : r.head? = some 35
  · obtain ⟨t, rfl⟩ := head_cons h1
    exact reference_num h
  · by_cases h2 : r.head? = some 108
    · have := reference_lit h 108 _ _ h2 (.inl ⟨rfl, rfl, rfl⟩)
      obtain ⟨t, rfl⟩ := head_cons h2
      exact this
    · by_cases h3 : r.head? = some 103
      · have := reference_lit h 103 _ _ h3 (.inr (.inl ⟨rfl, rfl, rfl⟩))
        obtain ⟨t, rfl⟩ := head_cons h3
        exact this
      · by_cases h4 : r.head? = some 113
        · have := reference_lit h 113 _ _ h4 (.inr (.inr ⟨rfl, rfl, rfl⟩))
          obtain ⟨t, rfl⟩ := head_cons h4
          exact this
        · by_cases h5 : r.head? = some 97
          · obtain ⟨t, rfl⟩ := head_cons h5
            by_cases h6 : t.head? = some 109
            · obtain ⟨u, rfl⟩ := head_cons h6
              rw [refM_am]
              unfold isM
              cases hm : Ppa.mustL [109, 112, 59] (109 :: u) with
              | ok t' => exact reference_amp_ok h h6 hm
              | error t' => exact reference_amp_no h h6 hm
            · rw [refM_a h6]
              unfold isM
              cases hm : Ppa.mustL [112, 111, 115, 59] t with
              | ok t' => exact reference_apos_ok h h6 hm
              | error t' => exact reference_apos_no h h6 hm
          · rw [refM_none h1 h2 h3 h4 h5]
            exact reference_none h h1 h2 h3 h4 h5
end Go.Proofs.YtemfmidhekdekaaGreatDoor.Wps
