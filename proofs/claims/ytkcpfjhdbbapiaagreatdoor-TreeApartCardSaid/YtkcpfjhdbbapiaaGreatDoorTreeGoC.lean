/- The walk over Text (chapter 06). -/
import Derived.Test.YtkcpfjhdbbapiaaGreatDoorTreeGoB
import Derived.Test.YtkcpfjhdbbapiaaGreatDoorShelfTree2
import Derived.Test.YtkcpfjhdbbapiaaGreatDoorBuildShelfS
namespace Go.Proofs.YtkcpfjhdbbapiaaGreatDoor.Wtr
open Go Go.RowKit Go.Proofs.YtkcpfjhdbbapiaaGreatDoor.Kb Go.Proofs.YtkcpfjhdbbapiaaGreatDoor.Flt

/-- the builder in block b holds these bytes; nothing below block b has turned -/
def Bld (b : Nat) (acc : List UInt8) (w : World) : Prop := Lib.IsBuilderF 88 5 b b (Lib.byteCells acc) w ∧ b < w.heap.size
theorem bld_fresh (w : World) : Bld w.heap.size [] (w.alloc (.cells #[.pointer none, .slice none 0 0] 88)) := ⟨Lib.IsBuilderF.of (Lib.fresh_isBuilder _ _ w), by simp⟩
theorem bld_alloc {b : Nat} {acc : List UInt8} {w : World} (h : Bld b acc w) (o : Obj) : Bld b acc (w.alloc o) :=
  ⟨h.1.elim (fun h => .inl (h.alloc o)) (fun h => .inr (h.alloc o)), by rw [World.size_alloc]; exact Nat.lt_succ_of_lt h.2⟩
theorem write_str (b : Nat) (acc : List UInt8) (s : ByteArray) (w : World) (h : Bld b acc w) (hl : acc.length + s.size ≤ 1000000000000) :
    Calls Tryz.prog 53 #[.pointer (some ⟨b, 0, none⟩), .string s] w fun e w' => e = .returned (.tuple #[.int .i64 s.size, .nilIface]) ∧ Bld b (acc ++ s.data.toList) w' ∧ Below b w w' := by
  refine (Any.Builder_WriteString_k Tryz.lays166 Tryz.Builder_Extra_166 b b _ _ w h.1 (by rw [Lib.byteCells_length]; omega) (Nat.le_of_lt h.2)).mono ?_
  rintro e w' ⟨he, h1, h2, _⟩
  refine ⟨he, ⟨?_, Nat.lt_of_lt_of_le h.2 h2.size⟩, h2⟩
  rw [Lib.byteCells_append]
  exact .inr h1
theorem build_string (b : Nat) (acc : List UInt8) (w : World) (h : Bld b acc w) :
    Calls Tryz.prog 54 #[.pointer (some ⟨b, 0, none⟩)] w fun e w' => e = .returned (.string ⟨acc.toArray⟩) ∧ Below b w w' :=
  (Any.Builder_String_any_k Tryz.lays169 Tryz.Builder_Extra_169 b b acc w h.1 (Nat.le_of_lt h.2)).mono fun _ _ ⟨he, _, hb, _⟩ => ⟨he, hb⟩
/-- the texts of a stretch, one behind the other -/
def textsFrom (l : List Ptr.Nd) (a b : Nat) : List UInt8 := (List.range' a (b - a)).flatMap fun j => if (Ptr.kin l j == 4) = true then Ptr.val l j else []
theorem textsFrom_step (l : List Ptr.Nd) (a k : Nat) (h : a ≤ k) : textsFrom l a (k + 1) = textsFrom l a k ++ if (Ptr.kin l k == 4) = true then Ptr.val l k else [] := by
  unfold textsFrom
  rw [show k + 1 - a = (k - a) + 1 by omega, List.range'_concat, List.flatMap_append, show a + 1 * (k - a) = k by omega]
  simp
theorem textsFrom_len (l : List Ptr.Nd) (a M : Nat) (hv : ∀ j, (Ptr.val l j).length ≤ M) : ∀ d, (textsFrom l a (a + d)).length ≤ d * M
  | 0 => by unfold textsFrom; simp
  | d + 1 => by
    rw [← Nat.add_assoc, textsFrom_step l a (a + d) (by omega), List.length_append, Nat.succ_mul]
    have h1 := textsFrom_len l a M hv d
    have h2 := hv (a + d)
    split
    · omega
    · simp only [List.length_nil]; omega
/-- a node's text -/
def textN (l : List Ptr.Nd) (i : Nat) : List UInt8 := if (Ptr.kin l i == 1 || Ptr.kin l i == 2) = true then textsFrom l i (endN l i) else Ptr.val l i
theorem val_small {l : List Ptr.Nd} {root : Bool} (h : Ptr.chk l root = 0) (j : Nat) : (Ptr.val l j).length ≤ 65536 := by
  by_cases hj : j < l.length
  · unfold Ptr.chk at h
    split at h
    · cases h
    · split at h
      · cases h
      · rename_i ha
        have ha : Ptr.allB l root l.length = true := by simpa using ha
        have hg := Ptr.allB_good ha j hj
        unfold Ptr.good at hg
        rw [Bool.and_eq_true] at hg
        have h2 := hg.2
        by_cases e : (root && j == 0) = true
        · rw [if_pos e] at h2
          unfold Ptr.headB at h2
          rw [Bool.and_eq_true, decide_eq_true_eq] at h2
          rw [h2.2]; simp
        · rw [if_neg e] at h2
          unfold Ptr.fitsB at h2
          rw [Bool.and_eq_true, Bool.and_eq_true, decide_eq_true_eq] at h2
          exact h2.1.2
  · unfold Ptr.val
    rw [List.getD_eq_getElem?_getD, List.getElem?_eq_none (by omega)]
    simp [Ptr.nd0]
theorem ret_str {x y : List UInt8} (h : x = y) : Ending.returned (.string ⟨x.toArray⟩) = .returned (.string ⟨y.toArray⟩) := by rw [h]
set_option maxRecDepth 100000 in
set_option maxHeartbeats 4000000 in
theorem Text_any (A : Option Addr) (l : List Ptr.Nd) (c i : Nat) (w : World) (hr : RdN w A l) (hl : l.length ≤ 16384) (hf : FitP l) (hE : TEnv w) (hi : i < l.length) (hc : l.length ≤ c) (hp : placeB l i = true) :
    Calls Tryz.prog 23 #[.slice A l.length c, .int .i64 i] w fun e w' => e = .returned (.string ⟨(textN l i).toArray⟩) ∧ Below w.heap.size w w' := by
  have hv : ∀ j, (Ptr.val l j).length ≤ 65536 := by
    have h := hp
    unfold placeB at h
    rw [Bool.and_eq_true, Bool.or_eq_true] at h
    rcases h.2 with h | h
    · exact val_small (by simpa using h)
    · exact val_small (by simpa using h)
  have cP := place_any A l c i w hr (by omega) hf hE
  rw [hp] at cP
  have cN := fun wx hx => end_any A l c i wx hx hi (by omega)
  obtain ⟨hn1, hn2⟩ := endN_le l i hi
  obtain ⟨b, off, rfl, c0, _, c2, _⟩ := hr.at_ hi
  have HR := Kept.mk hr
  have HV := Kept.mk hv
  have i0 : (0 : Int) ≤ (i : Int) := by omega
  have i1 : (i : Int) < (l.length : Int) := by omega
  simp only at c0 c2
  have hT : textN l i = if (Ptr.kin l i == 1 || Ptr.kin l i == 2) = true then textsFrom l i (endN l i) else Ptr.val l i := rfl
  have e1 : (((Ptr.kin l i : Nat) : Int) != 1) = !(Ptr.kin l i == 1) := congrArg Bool.not (beq_i _ 1)
  have e2 : (((Ptr.kin l i : Nat) : Int) != 2) = !(Ptr.kin l i == 2) := congrArg Bool.not (beq_i _ 2)
  generalize endN l i = N at cN hn1 hn2 hT
  generalize Ptr.kin l i = K at c0 hT e1 e2
  generalize (K == 1) = x1 at hT e1
  generalize (K == 2) = x2 at hT e2
  have CP := Kept.mk cP
  have CN := Kept.mk cN
  have HT := Kept.mk hT
  have HC0 := Kept.mk c0; have HC2 := Kept.mk c2
  have n0 : (i : Int) ≤ (N : Int) := by omega
  have n1 : (N : Int) ≤ (c : Int) := by omega
  have n2 : (0 : Int) ≤ (N : Int) := by omega
  clear cP cN hT hr hf hE hp hv c0 c2
  have plain : x1 = false → x2 = false → Calls Tryz.prog 23 #[.slice (some ⟨b, off, none⟩) l.length c, .int .i64 i] w fun e w' => e = .returned (.string ⟨(textN l i).toArray⟩) ∧ Below w.heap.size w w' := by
    rintro rfl rfl
    go_enter Tryz.func23, Tryz.ntmps23
    go_wp2_with (go_at_call 32; refine CP.out.mono ?_; rintro e w1 ⟨rfl, hb1⟩; have c0 := cell_keep hb1 HC0.out; have c2 := cell_keep hb1 HC2.out)
    go_ret
    exact ⟨ret_str (by rw [HT.out]; rfl), hb1⟩
  have build : (x1 || x2) = true → Calls Tryz.prog 23 #[.slice (some ⟨b, off, none⟩) l.length c, .int .i64 i] w fun e w' => e = .returned (.string ⟨(textN l i).toArray⟩) ∧ Below w.heap.size w w' := by
    intro hx
    have HT2 : Kept (textN l i = textsFrom l i N) := ⟨by rw [HT.out, if_pos hx]⟩
    have HX := Kept.mk hx
    clear hx
    cases x1 <;> cases x2
    · exact absurd HX.out (by simp)
    all_goals
      go_enter Tryz.func23, Tryz.ntmps23
      go_wp2_with (first | (go_at_call 32; refine CP.out.mono ?_; rintro e w1 ⟨rfl, hb1⟩; have c0 := cell_keep hb1 HC0.out) | (go_at_call 33; refine (CN.out _ ((HR.out.below hb1).below ((Below.refl _ _).alloc (Nat.le_refl _) _))).mono ?_; rintro e w2 ⟨rfl, rfl⟩))
      go_loopw [38] (fun k wx => ∃ m : Nat, m ≤ N - i ∧ k = .int .i64 m ∧ Kept (Bld w1.heap.size (textsFrom l i (i + m)) wx) ∧ Kept (Below w.heap.size w wx)) (fun k _ => N - i - (intOf k).toNat)
      case atStart => exact ⟨0, by omega, rfl, ⟨by rw [show textsFrom l i (i + 0) = [] by simp [textsFrom]]; exact bld_fresh w1⟩, ⟨hb1.alloc hb1.size _⟩⟩
      case round =>
        obtain ⟨m, hm, rfl, HB, HW⟩ := hrel
        have m0 : (0 : Int) ≤ (m : Int) := by omega
        have HB1 := Kept.mk hb1
        by_cases hlt : m < N - i
        · have m1 : (m : Int) < (N : Int) - (i : Int) := by omega
          obtain ⟨d0, d1, d2, d3⟩ := (HR.out.below HW.out).cells (i := i + m) (by omega)
          rw [show off + (i + m) * 4 = off + i * 4 + m * 4 by omega] at d0 d1 d2 d3
          simp only at d0 d1 d2 d3
          have hst := textsFrom_step l i (i + m) (by omega)
          have hln := textsFrom_len l i 65536 HV.out m
          have hvl := HV.out (i + m)
          have e4 : (((Ptr.kin l (i + m) : Nat) : Int) == 4) = (Ptr.kin l (i + m) == 4) := beq_i _ 4
          generalize Ptr.kin l (i + m) = K4 at d0 hst e4
          generalize (K4 == 4) = x4 at hst e4
          obtain ⟨V, hV⟩ : ∃ V : ByteArray, V = ⟨(Ptr.val l (i + m)).toArray⟩ := ⟨_, rfl⟩
          have hVd : V.data.toList = Ptr.val l (i + m) := by rw [hV]
          have hVs : V.size = (Ptr.val l (i + m)).length := by rw [hV]; show (Ptr.val l (i + m)).toArray.size = _; simp
          rw [← hV] at d2
          have HST := Kept.mk hst
          have HVD := Kept.mk hVd
          have cW := fun wx (hx : Bld w1.heap.size (textsFrom l i (i + m)) wx) => write_str w1.heap.size _ V wx hx (by omega)
          have CW := Kept.mk cW
          clear hst hVd hV hVs hln hvl cW hb1
          cases x4 with
          | true =>
            have hs2 : Kept (textsFrom l i (i + m + 1) = textsFrom l i (i + m) ++ V.data.toList) := ⟨by rw [HST.out, if_pos rfl, HVD.out]⟩
            clear HST
            go_wp2_with (go_at_call 53; refine (CW.out _ (bld_alloc HB.out _)).mono ?_; rintro e w5 ⟨rfl, hB5, hb5⟩)
            go_roundw
            case rel => exact ⟨m + 1, by omega, by go_num, ⟨by rw [← Nat.add_assoc, hs2.out]; exact hB5⟩, ⟨(HW.out.alloc HW.out.size _).trans (hb5.mono HB1.out.size)⟩⟩
            case measure => simp [intOf]; omega
          | false =>
            have hs2 : Kept (textsFrom l i (i + m + 1) = textsFrom l i (i + m)) := ⟨by rw [HST.out, if_neg (by simp), List.append_nil]⟩
            clear HST
            go_wp2
            go_roundw
            case rel => exact ⟨m + 1, by omega, by go_num, ⟨by rw [← Nat.add_assoc, hs2.out]; exact bld_alloc HB.out _⟩, ⟨HW.out.alloc HW.out.size _⟩⟩
            case measure => simp [intOf]; omega
        · have m1 : ¬ (m : Int) < (N : Int) - (i : Int) := by omega
          obtain rfl : m = N - i := by omega
          have cS := Kept.mk (build_string w1.heap.size _ wr HB.out)
          clear hb1
          go_wp2_with (go_at_call 54; refine cS.out.mono ?_; rintro e w5 ⟨rfl, hb5⟩)
          go_ret
          exact ⟨ret_str (by rw [HT2.out, show i + (N - i) = N by omega]), HW.out.trans (hb5.mono HB1.out.size)⟩
  cases x1 with
  | true => exact build rfl
  | false =>
    cases x2 with
    | true => exact build rfl
    | false => exact plain rfl rfl
end Go.Proofs.YtkcpfjhdbbapiaaGreatDoor.Wtr
