/- The program's parser in memory: its block, and what its walks read of the package variables. -/
import Derived.Test.YtlemdhfekdiaeaaGreatDoorCharsBlank
import Derived.Test.YtlemdhfekdiaeaaGreatDoorTreeFold
import Derived.Test.YtlemdhfekdiaeaaGreatDoorEmb
import Derived.Test.YtlemdhfekdiaeaaGreatDoorBeh
import Derived.Test.YtlemdhfekdiaeaaGreatDoorParseP
import Derived.Test.YtlemdhfekdiaeaaGreatDoorShelfParse
import Derived.Shelf.Unicode.DecodeAny
import Derived.Lib.IndexBytes
import Derived.WalkLawsBesides
import Derived.BigQuiet
namespace Go.Proofs.YtlemdhfekdiaeaaGreatDoor.Wps
open Go Go.RowKit Go.Proofs.YtlemdhfekdiaeaaGreatDoor.Kb Go.Proofs.YtlemdhfekdiaeaaGreatDoor.Wch

/-- the parser lies in block b; it goes through s, stands at k; x: the rest of its cells -/
def Row (b : Nat) (s : ByteArray) (k : Nat) (x : List Value) (w : World) : Prop := w.heap[b]? = some (.cells (.string s :: .int .i64 (k : Int) :: x).toArray 45 (0, 0))
section
variable {b k : Nat} {s : ByteArray} {x : List Value} {w w' : World}
theorem Row.lt (h : Row b s k x w) : b < w.heap.size := (Array.getElem?_eq_some_iff.1 h).1
theorem Row.c0 (h : Row b s k x w) : w.cell? ⟨b, 0, none⟩ = some (.string s) := by rw [cell_of_row w b _ _ _ _ h]; rfl
theorem Row.c1 (h : Row b s k x w) : w.cell? ⟨b, 1, none⟩ = some (.int .i64 (k : Int)) := by rw [cell_of_row w b _ _ _ _ h]; rfl
theorem Row.unf (h : Row b s k x w) (i : Nat) : w.frozen? ⟨b, i, none⟩ = false := Joins.unfrozen_of_block h _
theorem Row.drew (h : Row b s k x w) : Row b s k x w.drew := h
theorem Row.set (h : Row b s k x w) (k' : Nat) : Row b s k' x (w.setCell ⟨b, 1, none⟩ (.int .i64 (k' : Int))) := by
  unfold Row
  rw [Joins.block_setCell h]
  congr 2
theorem Row.below (h : Row b s k x w) (hb : Below w.heap.size w w') : Row b s k x w' := (hb.block b h.lt).trans h
end
/-- what the walks read of the package variables, as it stood when there were B blocks -/
structure Ev (w : World) : Prop where
  env : Env w
  mx : ∃ m : Int, w.cell? ⟨1, 0, none⟩ = some (.int .i64 m)
  fold : Wtr.FoldTab w
def EvB (B : Nat) (w : World) : Prop := ∃ w0, w0.heap.size = B ∧ Below B w0 w ∧ Ev w0
theorem Ev.below {w w' : World} (h : Ev w) (hb : Below w.heap.size w w') : Ev w' := ⟨h.env.below hb, by obtain ⟨m, hm⟩ := h.mx; exact ⟨m, by rw [hb.cell (p := ⟨1, 0, none⟩) (Kb.cell_lt hm)]; exact hm⟩, h.fold.below hb⟩
theorem EvB.ev {B : Nat} {w : World} (h : EvB B w) : Ev w := by
  obtain ⟨w0, rfl, hb, he⟩ := h
  exact he.below hb
theorem EvB.below {B : Nat} {w w' : World} (h : EvB B w) (hb : Below B w w') : EvB B w' := by
  obtain ⟨w0, hs, hb0, he⟩ := h
  exact ⟨w0, hs, hb0.trans hb, he⟩
theorem EvB.le {B : Nat} {w : World} (h : EvB B w) : B ≤ w.heap.size := by
  obtain ⟨w0, rfl, hb, _⟩ := h
  exact hb.size
theorem EvB.grown {B b : Nat} {w w' : World} (h : EvB B w) (hB : B ≤ b) (hg : w.grownBy w' (some b)) : EvB B w' :=
  h.below (Below.grown (Below.refl _ _) hg h.le (fun k hk => by cases hk; exact hB))
theorem grown_of_below {w w' : World} (h : Below w.heap.size w w') (row : Option Nat) : w.grownBy w' row := ⟨h.os, h.tape, h.output, h.size, fun j hj _ => h.block j hj⟩
theorem grown_set {w w' : World} {b : Nat} (h : w.grownBy w' (some b)) (i : Nat) (u : Value) : w.grownBy (w'.setCell ⟨b, i, none⟩ u) (some b) :=
  ⟨h.os, h.tape, h.output, by simpa using h.size, fun j hj hne => (Below.heap_setCell w' _ u j (fun e => hne (by rw [e]))).trans (h.block j hj hne)⟩
theorem decode_cut (s : ByteArray) (pos : Nat) (h : pos < s.size) : Lib.decodeGo (s.extract pos s.size) = Lib.decodeL (s.data.toList.drop pos) := by
  have hz : (s.extract pos s.size).size ≠ 0 := by
    have := congrArg List.length (Lib.extract_to_end s pos)
    rw [size_len, List.length_drop, size_len] at this
    omega
  unfold Lib.decodeGo
  rw [if_neg hz, ← Lib.decodeL_drop, List.drop_zero, Lib.extract_to_end]
theorem decode_call (s : ByteArray) (pos : Nat) (h : pos < s.size) (w : World) (ht : Env w) :
    Calls Tryz.prog 69 #[.string (s.extract pos s.size)] w fun e w' => e = .returned (.tuple #[.int .i32 (Lib.decodeL (s.data.toList.drop pos)).1, .int .i64 (Lib.decodeL (s.data.toList.drop pos)).2]) ∧ Below w.heap.size w w' := by
  have h1 := Any.utf8_DecodeRuneInString Tryz.lays197 (s.extract pos s.size) w ht.2
  rw [decode_cut s pos h] at h1
  exact h1
theorem ret_i32 {a b : Int} (h : a = b) : Ending.returned (.int .i32 a) = .returned (.int .i32 b) := by rw [h]
theorem peek_end (s : ByteArray) : Ppa.peek (s.data.toList.drop s.size) = -1 := by
  rw [List.drop_eq_nil_of_le (by rw [size_len]; exact Nat.le_refl _)]
  rfl
theorem peek_at (s : ByteArray) (k : Nat) (h : k < s.size) : Ppa.peek (s.data.toList.drop k) = ((Lib.decodeL (s.data.toList.drop k)).1 : Int) := by
  unfold Ppa.peek
  rw [if_neg]
  intro e
  have := congrArg List.length e
  rw [List.length_drop, size_len] at this
  simp at this
  omega
/-- a world behind w, in which the parser and the tables stand as in w -/
theorem next_row {b k : Nat} {s : ByteArray} {x : List Value} {w w' : World} (h : Row b s k x w ∧ Env w) (hb : Below w.heap.size w w') : Row b s k x w' ∧ Env w' := ⟨h.1.below hb, h.2.below hb⟩
set_option maxRecDepth 100000 in
set_option maxHeartbeats 2000000 in
theorem peek_any {b k : Nat} {s : ByteArray} {x : List Value} {w : World} (hk : k ≤ s.size) (h : Row b s k x w) (he : Env w) :
    Calls Tryz.prog 77 #[.pointer (some ⟨b, 0, none⟩)] w fun e w' => e = .returned (.int .i32 (Ppa.peek (s.data.toList.drop k))) ∧ Below w.heap.size w w' := by
  have i0 : (0 : Int) ≤ (k : Int) := by omega
  have i1 : (k : Int) ≤ (s.size : Int) := by omega
  have bx0 := beh_cell h.c0
  have bx1 := beh_cell h.c1
  have HW : Kept (Row b s k x w ∧ Env w) := ⟨h, he⟩
  have hp1 := fun h : k < s.size => peek_at s k h
  have hp2 : k = s.size → Ppa.peek (s.data.toList.drop k) = -1 := fun h => by subst h; exact peek_end s
  generalize Ppa.peek (s.data.toList.drop k) = P at hp1 hp2
  have HP1 := Kept.mk hp1
  have HP2 := Kept.mk hp2
  clear h he hp1 hp2
  go_enter Tryz.func77, Tryz.ntmps77
  go_wp2
  refine wp_region_beh (by kernel_rfl) (by kernel_rfl) ?_
  repeat
    (refine Qw_step (fun K hK => ?_)
     go_simp
     first
       | (refine hK _ ?_; clear hK K)
       | (apply Exists.intro
          refine ⟨fun _ => ?_, hK _ ?_⟩
          (fail)
          clear hK K))
  refine Qw_nil ?_
  rintro w5 ⟨⟨_, hb5⟩, rfl⟩
  clear bx0 bx1
  have H5 := Kept.mk (next_row HW.out hb5)
  have B5 := Kept.mk hb5
  clear hb5 HW
  by_cases hlt : k < s.size
  · have HP := Kept.mk (HP1.out hlt)
    have hne : ((k : Int) == (s.size : Int)) = false := by simp; omega
    have bx0 := beh_cell H5.out.1.c0
    have bx1 := beh_cell H5.out.1.c1
    have CD := Kept.mk (fun (y : Beh w5) => decode_call s k hlt y.fin (H5.out.2.below y.ok))
    clear HP1 HP2
    go_wp2
    refine wp_region_beh (by kernel_rfl) (by kernel_rfl) ?_
    repeat
      (refine Qw_step (fun K hK => ?_)
       go_simp
       first
         | (refine hK _ ?_; clear hK K)
         | (apply Exists.intro
            refine ⟨fun _ => ?_, hK _ ?_⟩
            (go_at_call 69; exact Calls.beh_of (CD.out _))
            clear hK K))
    refine Qw_nil ?_
    rintro w6 ⟨⟨_, hb6⟩, rfl⟩
    have B6 := Kept.mk hb6
    clear hb6 bx0 bx1
    go_wp2
    go_ret
    exact ⟨ret_i32 HP.out.symm, B5.out.trans (B6.out.mono B5.out.size)⟩
  · obtain rfl : k = s.size := by omega
    have HP := Kept.mk (HP2.out rfl)
    clear HP1 HP2
    go_wp2
    go_ret
    exact ⟨ret_i32 HP.out.symm, B5.out⟩
theorem fits_at (s : ByteArray) (k : Nat) (h : k < s.size) : k + (Lib.decodeL (s.data.toList.drop k)).2 ≤ s.size := by
  have hl : (s.data.toList.drop k).length = s.size - k := by rw [List.length_drop, size_len]
  have := Lib.decodeL_le (s.data.toList.drop k) (by intro e; rw [e] at hl; simp at hl; omega)
  omega
set_option maxRecDepth 100000 in
set_option maxHeartbeats 2000000 in
theorem next_any {b k : Nat} {s : ByteArray} {x : List Value} {w : World} (hk : k < s.size) (hs : s.size ≤ 65536) (h : Row b s k x w) (he : Env w) :
    Calls Tryz.prog 78 #[.pointer (some ⟨b, 0, none⟩)] w fun e w' => e = .returned (.int .i32 (Lib.decodeL (s.data.toList.drop k)).1) ∧ Row b s (k + (Lib.decodeL (s.data.toList.drop k)).2) x w' ∧ w.grownBy w' (some b) := by
  have i0 : (0 : Int) ≤ (k : Int) := by omega
  have i1 : (k : Int) ≤ (s.size : Int) := by omega
  have hw := fits_at s k hk
  have bx0 := beh_cell h.c0
  have bx1 := beh_cell h.c1
  have HW : Kept (Row b s k x w ∧ Env w) := ⟨h, he⟩
  have CD := Kept.mk (fun (y : Beh w) => decode_call s k hk y.fin (he.below y.ok))
  clear h he
  generalize hD : Lib.decodeL (s.data.toList.drop k) = D at CD hw
  clear hD
  have i2 : (0 : Int) ≤ (D.2 : Int) := by omega
  have i3 : (D.2 : Int) ≤ 65536 := by omega
  have i4 : (k : Int) ≤ 65536 := by omega
  go_enter Tryz.func78, Tryz.ntmps78
  go_wp2
  refine wp_region_beh (by kernel_rfl) (by kernel_rfl) ?_
  repeat
    (refine Qw_step (fun K hK => ?_)
     go_simp
     first
       | (refine hK _ ?_; clear hK K)
       | (apply Exists.intro
          refine ⟨fun _ => ?_, hK _ ?_⟩
          (go_at_call 69; exact Calls.beh_of (CD.out _))
          clear hK K))
  refine Qw_nil ?_
  rintro w5 ⟨⟨_, hb5⟩, rfl⟩
  clear bx0 bx1
  have H5 := Kept.mk (next_row HW.out hb5)
  have B5 := Kept.mk hb5
  have c1 := H5.out.1.c1
  have f1 := H5.out.1.unf 1
  clear hb5
  go_wp2
  go_ret
  exact ⟨rfl, by have h := H5.out.1.set (k + D.2); rw [show ((k + D.2 : Nat) : Int) = (k : Int) + (D.2 : Int) by omega] at h; exact h, grown_set (grown_of_below B5.out _) 1 _⟩
/-- where the parser gives up -/
def Gone (k : Nat) (e : Ending) : Prop := e = .panicked [{ v := .iface 90 (.int .i64 (k : Int)), recovered := false }]
set_option maxRecDepth 100000 in
theorem no_any {b k : Nat} {s : ByteArray} {x : List Value} {w : World} (h : Row b s k x w) :
    Calls Tryz.prog 44 #[.pointer (some ⟨b, 0, none⟩)] w fun e w' => Gone k e ∧ w' = w := by
  have c1 := h.c1
  clear h
  go_enter Tryz.func44, Tryz.ntmps44
  go_wp2
  exact ⟨rfl, rfl, rfl⟩
/-- the parser lies in b, above B; it goes through s, r is what is left; x: the rest of its cells -/
structure Pa (B b : Nat) (s : ByteArray) (x : List Value) (r : Ppa.Bs) (w : World) : Prop where
  row : Row b s (s.size - r.length) x w
  suf : r <:+ s.data.toList
  ev : EvB B w
  le : B ≤ b
  small : s.size ≤ 65536
section
variable {B b : Nat} {s : ByteArray} {x : List Value} {r : Ppa.Bs} {w w' : World}
theorem Pa.len (h : Pa B b s x r w) : r.length ≤ s.size := by
  have := h.suf.length_le
  rw [size_len] at this
  exact this
theorem Pa.drop (h : Pa B b s x r w) : s.data.toList.drop (s.size - r.length) = r := by
  have := List.suffix_iff_eq_drop.1 h.suf
  rw [size_len] at this
  exact this.symm
theorem Pa.below (h : Pa B b s x r w) (hb : Below w.heap.size w w') : Pa B b s x r w' := ⟨h.row.below hb, h.suf, h.ev.below (hb.mono h.ev.le), h.le, h.small⟩
theorem Pa.step (h : Pa B b s x r w) {k : Nat} (hr : Row b s k x w') (hg : w.grownBy w' (some b)) (e : k = s.size - (Ppa.skip r).length) : Pa B b s x (Ppa.skip r) w' :=
  ⟨e ▸ hr, (List.drop_suffix _ _).trans h.suf, h.ev.grown h.le hg, h.le, h.small⟩
end
theorem peek_r {B b : Nat} {s : ByteArray} {x : List Value} {r : Ppa.Bs} {w : World} (h : Pa B b s x r w) :
    Calls Tryz.prog 77 #[.pointer (some ⟨b, 0, none⟩)] w fun e w' => e = .returned (.int .i32 (Ppa.peek r)) ∧ Below w.heap.size w w' := by
  have h1 := peek_any (by omega) h.row h.ev.ev.env
  rw [h.drop] at h1
  exact h1
theorem peek_ne {r : Ppa.Bs} (h : 0 ≤ Ppa.peek r) : r ≠ [] := by
  intro e
  subst e
  simp [Ppa.peek] at h
theorem next_r {B b : Nat} {s : ByteArray} {x : List Value} {r : Ppa.Bs} {w : World} (h : Pa B b s x r w) (hne : r ≠ []) :
    Calls Tryz.prog 78 #[.pointer (some ⟨b, 0, none⟩)] w fun e w' => e = .returned (.int .i32 (Ppa.peek r)) ∧ Pa B b s x (Ppa.skip r) w' ∧ w.grownBy w' (some b) := by
  have hl := h.len
  have hp := List.length_pos_iff.2 hne
  have h1 := next_any (by omega) h.small h.row h.ev.ev.env
  rw [h.drop] at h1
  have hd := Lib.decodeL_le r hne
  refine h1.mono ?_
  rintro e w' ⟨rfl, hr, hg⟩
  refine ⟨by unfold Ppa.peek; rw [if_neg hne], h.step hr hg ?_, hg⟩
  unfold Ppa.skip
  rw [List.length_drop]
  omega
theorem no_r {B b : Nat} {s : ByteArray} {x : List Value} {r : Ppa.Bs} {w : World} (h : Pa B b s x r w) :
    Calls Tryz.prog 44 #[.pointer (some ⟨b, 0, none⟩)] w fun e w' => Gone (s.size - r.length) e ∧ w' = w := no_any h.row
/-- how a way of reading ends: with v and what is left, or it gives up -/
def Ways (B b : Nat) (s : ByteArray) (x : List Value) (w : World) (v : Value) (o : Except Ppa.Bs Ppa.Bs) (e : Ending) (w' : World) : Prop :=
  w.grownBy w' (some b) ∧ match o with
    | .ok r => e = .returned v ∧ Pa B b s x r w'
    | .error r => Gone (s.size - r.length) e ∧ r.length ≤ s.size
set_option maxRecDepth 100000 in
theorem may_r {B b : Nat} {s : ByteArray} {x : List Value} {r : Ppa.Bs} {w : World} (c : Int) (hc : 0 ≤ c) (h : Pa B b s x r w) :
    Calls Tryz.prog 41 #[.pointer (some ⟨b, 0, none⟩), .int .i32 c] w fun e w' => e = .returned (.bool (decide (Ppa.peek r = c))) ∧ Pa B b s x (if Ppa.peek r = c then Ppa.skip r else r) w' ∧ w.grownBy w' (some b) := by
  by_cases hp : Ppa.peek r = c
  · have hne := peek_ne (r := r) (by omega)
    have HP := Kept.mk hp
    rw [if_pos hp, decide_eq_true hp]
    clear hc
    go_enter Tryz.func41, Tryz.ntmps41
    go_wp2_with (first | (go_at_call 77; refine (peek_r h).mono ?_; rintro e w1 ⟨rfl, hb1⟩; have H1 := h.below hb1; have G1 := Kept.mk (grown_of_below hb1 (some b)); have e1 : (Ppa.peek r == c) = true := (by rw [beq_iff_eq]; exact hp); clear hp) | (go_at_call 78; refine (next_r H1 hne).mono ?_; rintro e w2 ⟨rfl, hP2, hg2⟩; have G2 := Kept.mk hg2; clear hg2))
    go_ret
    exact ⟨rfl, hP2, G1.out.trans G2.out⟩
  · rw [if_neg hp, decide_eq_false hp]
    clear hc
    go_enter Tryz.func41, Tryz.ntmps41
    go_wp2_with (go_at_call 77; refine (peek_r h).mono ?_; rintro e w1 ⟨rfl, hb1⟩; have H1 := h.below hb1; have G1 := Kept.mk (grown_of_below hb1 (some b)); have e1 : (Ppa.peek r == c) = false := (by simpa using hp); clear hp)
    go_ret
    exact ⟨rfl, H1, G1.out⟩

end Go.Proofs.YtlemdhfekdiaeaaGreatDoor.Wps
