/- Lines back: the plain part, and Shown over many items (chapter 31). -/
import Derived.Test.YtlaheponkbihaaaDoorLinesLb
namespace Go.Proofs.YtlaheponkbihaaaDoor.Pln
open Go

theorem seen_digit (n : Nat) (h : n < 10) : seen (UInt8.ofNat (48 + n)) := by
  rcases (by omega : n = 0 ∨ n = 1 ∨ n = 2 ∨ n = 3 ∨ n = 4 ∨ n = 5 ∨ n = 6 ∨ n = 7 ∨ n = 8 ∨ n = 9) with rfl | rfl | rfl | rfl | rfl | rfl | rfl | rfl | rfl | rfl
  all_goals exact ⟨by decide, by decide⟩
theorem seen_dec (u : Nat) : ∀ x ∈ Lib.decDigits u, seen x := by
  induction u using Nat.strongRecOn with
  | _ u ih =>
    intro x hx
    rw [Lib.decDigits] at hx
    split at hx
    · rename_i h
      simp only [List.mem_cons, List.mem_nil_iff, or_false] at hx
      subst hx
      exact seen_digit u h
    · rename_i h
      rw [List.mem_append] at hx
      rcases hx with hx | hx
      · exact ih (u / 10) (by omega) x hx
      · simp only [List.mem_cons, List.mem_nil_iff, or_false] at hx
        subst hx
        exact seen_digit _ (by omega)
theorem seen_itoa (n : Int) : ∀ x ∈ Lib.itoa n, seen x := by
  intro x hx
  unfold Lib.itoa at hx
  split at hx
  · rw [List.mem_cons] at hx
    rcases hx with rfl | hx
    · exact ⟨by decide, by decide⟩
    · exact seen_dec _ x hx
  · exact seen_dec _ x hx
theorem seen_all {l : List UInt8} (h : (l.all fun c => decide (32 ≤ c) && decide (c ≤ 126)) = true) : ∀ x ∈ l, seen x := by
  intro x hx
  have := List.all_eq_true.1 h x hx
  simpa [seen] using this
theorem seen_append {a b : List UInt8} (ha : ∀ x ∈ a, seen x) (hb : ∀ x ∈ b, seen x) : ∀ x ∈ a ++ b, seen x := by
  intro x hx
  rcases List.mem_append.1 hx with h | h
  · exact ha x h
  · exact hb x h
end Go.Proofs.YtlaheponkbihaaaDoor.Pln
namespace Go.Proofs.YtlaheponkbihaaaDoor.Wln
open Go Go.RowKit Go.Proofs.YtlaheponkbihaaaDoor.Kb

theorem seen_kind (n : Nat) : ∀ x ∈ kindL n, Pln.seen x := by
  unfold kindL
  split
  all_goals exact Pln.seen_all (by decide)
theorem seen_bool (z : Bool) : ∀ x ∈ boolL z, Pln.seen x := by
  cases z
  all_goals exact Pln.seen_all (by decide)
theorem seen_show (x : It) : ∀ c ∈ showL x, Pln.seen c := by
  unfold showL
  split
  · exact Pln.seen_append (Pln.seen_append (Pln.seen_append (Pln.seen_append (seen_kind _) (Pln.seen_all (by decide))) (Pln.quoL_seen _)) (Pln.seen_all (by decide))) (Pln.quoL_seen _)
  · exact Pln.seen_append (Pln.seen_all (by decide)) (Pln.seen_itoa _)
  · exact Pln.seen_append (Pln.seen_all (by decide)) (Pln.quoL_seen _)
  · exact Pln.seen_append (Pln.seen_all (by decide)) (seen_bool _)
  · exact Pln.seen_all (by decide)
theorem len_kind (n : Nat) : (kindL n).length ≤ 11 := by
  unfold kindL
  split
  all_goals decide
theorem len_show {x : It} (h : FitI x) : (showL x).length ≤ 1000000 := by
  obtain ⟨_, _, h1, h2, h3, h4⟩ := h
  have q1 := quoL_len x.2.2.1
  have q2 := quoL_len x.2.2.2.1
  have k := len_kind x.2.1
  have i := Lib.itoa_length_le x.2.2.2.2 h3 h4
  have b : ∀ z, (boolL z).length ≤ 5 := by decide
  have b := b (x.2.2.2.2 == 1)
  unfold showL
  split
  all_goals simp only [List.length_append, List.length_cons, List.length_nil]
  all_goals omega
/-- the verbs that have a text -/
def vbL : List (List UInt8) := [Pln.wLoad, Pln.wQuery, Pln.wScan, Pln.wUpdate]
theorem vb_at : ∀ x ∈ vbL, x ≠ [] ∧ (∀ c ∈ x, c ≠ 32) ∧ x.head? ≠ some 34 ∧ x.length ≤ 6 ∧ ∃ k n, ∀ r, Pln.cmdL (x :: r) = Pln.oneL k n r := by
  intro x hx
  unfold vbL at hx
  simp only [List.mem_cons, List.mem_nil_iff, or_false] at hx
  rcases hx with rfl | rfl | rfl | rfl
  · exact ⟨by decide, by decide, by decide, by decide, 1, 0, fun r => by rw [Pln.cmdL_cons, if_neg (by decide), if_pos rfl]⟩
  · exact ⟨by decide, by decide, by decide, by decide, 2, 1, fun r => by rw [Pln.cmdL_cons, if_neg (by decide), if_neg (by decide), if_pos rfl]⟩
  · exact ⟨by decide, by decide, by decide, by decide, 2, 0, fun r => by rw [Pln.cmdL_cons, if_neg (by decide), if_neg (by decide), if_neg (by decide), if_pos rfl]⟩
  · exact ⟨by decide, by decide, by decide, by decide, 3, 0, fun r => by rw [Pln.cmdL_cons, if_neg (by decide), if_neg (by decide), if_neg (by decide), if_neg (by decide), if_pos rfl]⟩
/-- a line made of a verb and a quoted text: read back -/
theorem Command_back (x : List UInt8) (hx : x ∈ vbL) (s X Q : ByteArray) (hX : X = ⟨x.toArray⟩) (hQ : Q = ⟨(Pln.quoL s.data.toList).toArray⟩) (hz : (⟨#[32, 32]⟩ ++ X ++ ⟨#[32, 32]⟩ ++ Q ++ ⟨#[32]⟩ : ByteArray).size ≤ 65536) (w : World) (hE : LEnv w) :
    Calls Tryd.prog 7 #[.string (⟨#[32, 32]⟩ ++ X ++ ⟨#[32, 32]⟩ ++ Q ++ ⟨#[32]⟩)] w fun e w' => Below w.heap.size w w' ∧ ∃ (k n : Int) (A : Option Addr) (c : Nat), e = .returned (.tuple #[.agg #[.int .u8 k, .string s, .int .i64 n, .slice A 0 c], .int .i64 0]) := by
  obtain ⟨h1, h2, h3, _, k, n, hk⟩ := vb_at x hx
  have hl : Pln.lineL (⟨#[32, 32]⟩ ++ X ++ ⟨#[32, 32]⟩ ++ Q ++ ⟨#[32]⟩ : ByteArray).data.toList = some (k, s.data.toList, n, []) := by
    rw [cat_list, cat_list, cat_list, cat_list, hX, hQ]
    exact Pln.line_back x s.data.toList k n h1 h2 h3 hk
  refine (Command_flat _ _ hz rfl w hE).mono ?_
  rintro e w' ⟨hb, A, c, rfl, _⟩
  rw [hl]
  exact ⟨hb, k, n, A, c, rfl⟩
/-- how much text items hold -/
def tot (l : List It) : Nat := (l.map fun x => x.2.2.1.length + x.2.2.2.1.length).sum
theorem tot_step {l : List It} {k : Nat} {x : It} (h : l[k]? = some x) : tot (l.take (k + 1)) = tot (l.take k) + x.2.2.1.length + x.2.2.2.1.length := by
  unfold tot
  rw [List.take_add_one, h]
  simp
  omega
theorem tot_mem : ∀ (l : List It) (x : It), x ∈ l → x.2.2.1.length + x.2.2.2.1.length ≤ tot l
  | y :: l, x, h => by
    have e : tot (y :: l) = (y.2.2.1.length + y.2.2.2.1.length) + tot l := by simp [tot]
    rw [e]
    rcases List.mem_cons.1 h with rfl | h
    · omega
    · have := tot_mem l x h
      omega
set_option maxRecDepth 100000 in
set_option maxHeartbeats 4000000 in
theorem Shown_many (A : Option Addr) (c : Nat) (l : List It) (w : World) (hE : LEnv w) (hr : RdI w A l) (hl : l.length ≤ 3000000000000) (hf : ∀ x ∈ l, FitI x) :
    Calls Tryd.prog 11 #[.slice A l.length c] w fun e w' => ∃ v, e = .returned v ∧ w'.ownsRow w.heap.size 9 1 v l.length (stC (l.map showL)) ∧ Below w.heap.size w w' := by
  obtain ⟨i0', hi, hz0, hz1, hz2⟩ := info_parts infoT
  have HR := Kept.mk hr
  have HE := Kept.mk hE
  have HF := Kept.mk hf
  clear hr hE hf
  go_enter Tryd.func11, Tryd.ntmps11
  go_wp2
  go_loopw [3, 5, 8] (fun v _ i wx => ∃ k : Nat, i = .int .i64 (k : Int) ∧ k ≤ l.length ∧ Kept (wx.ownsRow w.heap.size 9 1 v k (stC ((l.take k).map showL))) ∧ Kept (Below w.heap.size w wx)) (fun _ _ i _ => l.length - (intOf i).toNat)
  case atStart => exact ⟨0, rfl, by omega, ⟨World.ownsRow_nil _ _ _ _⟩, ⟨Below.refl _ _⟩⟩
  case round =>
    obtain ⟨k, rfl, hk, HO, HB⟩ := hrel
    have k0 : (0 : Int) ≤ (k : Int) := by omega
    by_cases hlt : k < l.length
    · have k1 : (k : Int) < (l.length : Int) := by omega
      obtain ⟨x, hx⟩ : ∃ x, l[k]? = some x := ⟨_, List.getElem?_eq_getElem hlt⟩
      obtain ⟨g, off, rfl, x0, x1, x2, x3, x4⟩ := (HR.out.below HB.out) k x hx
      obtain ⟨a, b, nm, tx, n⟩ := x
      obtain ⟨f1, f2, f3, f4, f5, f6⟩ := HF.out _ (List.mem_of_getElem? hx)
      simp only at x0 x1 x2 x3 x4 f1 f2 f3 f4 f5 f6
      have htk : (l.take (k + 1)).map showL = (l.take k).map showL ++ [showL (a, b, nm, tx, n)] := by
        rw [List.take_add_one, hx, List.map_append]
        rfl
      have hBI : Below wr.heap.size wr (wr.alloc (.cells #[.int .u8 (a : Int), .int .u8 (b : Int), .string ⟨nm.toArray⟩, .string ⟨tx.toArray⟩, .int .i64 n] 38)) := (Below.refl _ _).alloc (Nat.le_refl _) _
      have cS := shown_any a b nm tx n _ ((HE.out.below HB.out).below hBI) f1 f2 f3 f4 f5 f6
      have CS := Kept.mk cS
      have HTK := Kept.mk htk
      have HBW := Kept.mk (HB.out.trans (hBI.mono HB.out.size))
      have HOW := Kept.mk (HO.out.kept (row := none) ⟨hBI.os, hBI.tape, hBI.output, hBI.size, fun k hk _ => hBI.block k hk⟩ (Classical.em _))
      clear hx cS htk hBI f1 f2 f3 f4 f5 f6
      generalize showL (a, b, nm, tx, n) = sl at CS HTK
      go_wp2_with (first
        | (go_at_call 23; refine CS.out.mono ?_; rintro e w6 ⟨rfl, hb6⟩; have HO6 := Kept.mk (HOW.out.kept (row := none) ⟨hb6.os, hb6.tape, hb6.output, hb6.size, fun k hk _ => hb6.block k hk⟩ (Classical.em _)); have HB6 := Kept.mk (HBW.out.trans (hb6.mono HBW.out.size)); clear hb6)
        | (at_builtin; refine wpList_append_own _ rfl (.tmp 12) (.tmp 15) 34 rfl w.heap.size 9 i0' (.string ⟨#[]⟩) 1 16 Tryd.underlying34 hi hz0 hz1 hz2 rfl (by decide) _ _ _ (by rfl) (HO6.out.alloc _) ⟨w6.heap.size, 0, none⟩ 1 1 [.string ⟨sl.toArray⟩] (by rfl) (by rfl) (cell_one_new _ _ _) (by intro u hu; simp at hu; subst hu; rfl) (by unfold maxLen; omega) (by omega) (by have := HB6.out.size; simp; omega) ?_; intro v' w7 hown7 hgrow7 _; have hb7 := Below.grown (HB6.out.alloc HB6.out.size _) hgrow7 (by have := HB6.out.size; simp; omega) (fun q hq => (HO6.out.lt q hq).1); have O7 := Kept.mk hown7; have B7 := Kept.mk hb7; clear hown7 hgrow7 hb7))
      go_roundw
      case rel => exact ⟨k + 1, by go_num, by omega, ⟨by rw [HTK.out, stC_append]; exact O7.out⟩, B7⟩
      case measure => simp [intOf]; omega
    · obtain rfl : k = l.length := by omega
      have ho := HO.out
      rw [List.take_of_length_le (Nat.le_refl _)] at ho
      have HO2 := Kept.mk ho
      clear ho
      go_wp2
      go_ret
      exact ⟨_, rfl, HO2.out, HB.out⟩
end Go.Proofs.YtlaheponkbihaaaDoor.Wln
