/- The walks over Kids, Attributes, the iterator over ancestors, Part (chapter 06). The walk over Part (chapter 06). -/
import Derived.Test.YtkcpfjhdbbapiaaGreatDoorTreeSeq
import Derived.Test.YtkcpfjhdbbapiaaGreatDoorTreeGoB
import Derived.Laws.OwnMore
import Derived.Deep.AppendLies
import Derived.WalkSpells
namespace Go.Proofs.YtkcpfjhdbbapiaaGreatDoor.Wtr
open Go Go.RowKit Go.Shelf Go.Proofs.YtkcpfjhdbbapiaaGreatDoor.Kb Go.Proofs.YtkcpfjhdbbapiaaGreatDoor.Flt
attribute [local go_sem] Oper.semAt_some

/-- a node's children, or attributes: none, where there is no such place -/
def kidsB (l : List Ptr.Nd) (a : Int) (at' : Bool) : List Nat := if placeB l a = true then Ptr.kidsL l a.toNat at' (a.toNat + 1) (Ptr.endN l a.toNat) else []
theorem kids_call (A : Option Addr) (c : Nat) (l : List Ptr.Nd) (q : Nat) (hq : q < l.length) (at' : Bool) (hl : l.length ≤ 100000) (w w1 : World) (hw : w1 = ((w.alloc (.cells #[.slice A l.length c] 22)).alloc (.cells #[.int .i64 (q : Int)] 3)).alloc (.cells #[.bool at'] 4)) (hr : RdN w A l) :
    Calls Tryz.prog 35 #[.func (.func 59) #[] #[.pointer (some ⟨w.heap.size + 1, 0, none⟩), .pointer (some ⟨w.heap.size, 0, none⟩), .pointer (some ⟨w.heap.size + 2, 0, none⟩)]] w1 fun e w' =>
      ∃ v, e = .returned v ∧ w'.ownsRow w.heap.size 3 1 v (Ptr.kidsL l q at' (q + 1) (Ptr.endN l q)).length (ic (Ptr.kidsL l q at' (q + 1) (Ptr.endN l q))) ∧ Below w.heap.size w w' := by
  subst hw
  exact collect_kids A c l q hq at' hl w hr
set_option maxHeartbeats 1000000 in
theorem Kids_any (A : Option Addr) (l : List Ptr.Nd) (c : Nat) (a : Int) (w : World) (hr : RdN w A l) (hl : l.length ≤ 100000) (hf : FitP l) (hE : TEnv w) :
    Calls Tryz.prog 17 #[.slice A l.length c, .int .i64 a] w fun e w' => ∃ v, e = .returned v ∧ w'.ownsRow w.heap.size 3 1 v (kidsB l a false).length (ic (kidsB l a false)) ∧ Below w.heap.size w w' := by
  have cP := place_any A l c a w hr hl hf hE
  have HR := Kept.mk hr
  unfold kidsB
  cases hp : placeB l a with
  | false =>
    rw [hp] at cP
    have CP := Kept.mk cP
    rw [if_neg (by simp)]
    clear cP hr hf hE hp
    go_enter Tryz.func17, Tryz.ntmps17
    go_wp2_with (go_at_call 32; refine CP.out.mono ?_; rintro e w1 ⟨rfl, hb1⟩)
    go_ret
    exact ⟨_, rfl, World.ownsRow_nil _ _ _ _, hb1⟩
  | true =>
    obtain ⟨i, rfl, hi⟩ := place_in hp
    rw [hp] at cP
    have CP := Kept.mk cP
    rw [if_pos rfl, Int.toNat_natCast]
    have cN := fun wx w1 hw hx => kids_call A c l i hi false hl wx w1 hw hx
    have CN := Kept.mk cN
    generalize Ptr.kidsL l i false (i + 1) (Ptr.endN l i) = KL at CN ⊢
    clear cP hr hf hE hp cN
    go_enter Tryz.func17, Tryz.ntmps17
    go_wp2_with (first | (go_at_call 32; refine CP.out.mono ?_; rintro e w1 ⟨rfl, hb1⟩; have B1 := Kept.mk hb1; clear hb1) | (go_at_call 36; refine (kids_any _ _ _ _ _ _).mono ?_; rintro e w2 ⟨rfl, hw2⟩; have W2 := Kept.mk hw2; clear hw2) | (go_at_call 35; refine (CN.out _ _ W2.out (HR.out.below B1.out)).mono ?_; rintro e w3 ⟨v, rfl, hO, hb3⟩))
    go_ret
    exact ⟨_, rfl, own_low hO B1.out.size, B1.out.trans (hb3.mono B1.out.size)⟩
set_option maxHeartbeats 1000000 in
theorem Attributes_any (A : Option Addr) (l : List Ptr.Nd) (c : Nat) (a : Int) (w : World) (hr : RdN w A l) (hl : l.length ≤ 100000) (hf : FitP l) (hE : TEnv w) :
    Calls Tryz.prog 19 #[.slice A l.length c, .int .i64 a] w fun e w' => ∃ v, e = .returned v ∧ w'.ownsRow w.heap.size 3 1 v (kidsB l a true).length (ic (kidsB l a true)) ∧ Below w.heap.size w w' := by
  have cP := place_any A l c a w hr hl hf hE
  have HR := Kept.mk hr
  unfold kidsB
  cases hp : placeB l a with
  | false =>
    rw [hp] at cP
    have CP := Kept.mk cP
    rw [if_neg (by simp)]
    clear cP hr hf hE hp
    go_enter Tryz.func19, Tryz.ntmps19
    go_wp2_with (go_at_call 32; refine CP.out.mono ?_; rintro e w1 ⟨rfl, hb1⟩)
    go_ret
    exact ⟨_, rfl, World.ownsRow_nil _ _ _ _, hb1⟩
  | true =>
    obtain ⟨i, rfl, hi⟩ := place_in hp
    rw [hp] at cP
    have CP := Kept.mk cP
    rw [if_pos rfl, Int.toNat_natCast]
    have cN := fun wx w1 hw hx => kids_call A c l i hi true hl wx w1 hw hx
    have CN := Kept.mk cN
    generalize Ptr.kidsL l i true (i + 1) (Ptr.endN l i) = KL at CN ⊢
    clear cP hr hf hE hp cN
    go_enter Tryz.func19, Tryz.ntmps19
    go_wp2_with (first | (go_at_call 32; refine CP.out.mono ?_; rintro e w1 ⟨rfl, hb1⟩; have B1 := Kept.mk hb1; clear hb1) | (go_at_call 36; refine (kids_any _ _ _ _ _ _).mono ?_; rintro e w2 ⟨rfl, hw2⟩; have W2 := Kept.mk hw2; clear hw2) | (go_at_call 35; refine (CN.out _ _ W2.out (HR.out.below B1.out)).mono ?_; rintro e w3 ⟨v, rfl, hO, hb3⟩))
    go_ret
    exact ⟨_, rfl, own_low hO B1.out.size, B1.out.trans (hb3.mono B1.out.size)⟩
theorem upC_len (l : List Ptr.Nd) : ∀ (f : Nat) (p : Int), (Ptr.upC l f p).length ≤ f
  | 0, _ => by simp [Ptr.upC]
  | f + 1, p => by
    rw [Ptr.upC_at]
    split
    · simp
    · rw [List.length_cons]
      have := upC_len l f (Ptr.par l p.toNat)
      omega
set_option maxRecDepth 100000 in
set_option maxHeartbeats 2000000 in
/-- the iterator over ancestors: for whatever body that keeps what lay -/
theorem up1_in (n : Nat) (hn : 1 ≤ n) (lp Ba Bt : Nat) (A : Option Addr) (c : Nat) (l : List Ptr.Nd) (q : Nat) (hq : q < l.length) (hrng : Ptr.Rng l l.length) (w : World)
    (hr : RdN w A l) (hA : w.cell? ⟨Ba, 0, none⟩ = some (.int .i64 (q : Int))) (hT : w.cell? ⟨Bt, 0, none⟩ = some (.slice A l.length c)) (J Jx : List Nat → World → Prop)
    (hY : ∀ pre x W, J pre W → pre.length < l.length → YieldAt Fence.wide (n - 1) Tryz.prog lp (encI x) W fun e W' =>
      (e = .returned (.bool true) ∧ J (pre ++ [x]) W' ∧ Below w.heap.size W W') ∨ (e = .returned (.bool false) ∧ Jx (pre ++ [x]) W'))
    (W : World) (hW : Below w.heap.size w W) (h0 : J [] W) :
    CallsIn Fence.wide n Tryz.prog 60 #[.func (.yield lp) #[] #[], .pointer (some ⟨Bt, 0, none⟩), .pointer (some ⟨Ba, 0, none⟩)] W fun e W' => (∃ v, e = .returned v) ∧
      ((∃ ys, ys = Ptr.upL l q ∧ J ys W') ∨ (∃ pre, True ∧ Jx pre W')) := by
  have hU : Kept (Ptr.upL l q = Ptr.upC l q (Ptr.par l q)) := ⟨rfl⟩
  have hUl : (Ptr.upL l q).length ≤ q := upC_len l q _
  have hr0 := hrng q hq
  generalize Ptr.upL l q = U at hU hUl ⊢
  obtain ⟨b, off, rfl, _, _, _, c3⟩ := (hr.below hW).at_ hq
  simp only at c3
  generalize Ptr.par l q = P at c3 hU hr0
  have HG := Kept.mk hrng
  have HR := Kept.mk hr
  have HT := Kept.mk hT
  have cA := cell_keep hW hA
  have cT := cell_keep hW hT
  clear hr hA hT hrng
  have q0 : (0 : Int) ≤ (q : Int) := by omega
  have q1 : (q : Int) < (l.length : Int) := by omega
  refine callsIn_of_wp Tryz.func60 rfl trivial ?_ rfl
  simp only [Tryz.ntmps60, List.size_toArray, List.length_cons, List.length_nil, Nat.reduceAdd, Nat.reduceSub, Array.replicate_succ, Array.replicate_zero, List.push_toArray, List.append_toArray, List.nil_append, List.cons_append]
  gi_wp2
  gi_loopw [4] (fun i wr => ∃ (pre : List Nat) (f : Nat) (p : Int), i = .int .i64 p ∧ -1 ≤ p ∧ p < l.length ∧ p < f ∧ Kept (U = pre ++ Ptr.upC l f p) ∧ J pre wr ∧ Kept (Below w.heap.size w wr)) (fun i _ => (intOf i + 1).toNat)
  case atStart => exact ⟨[], q, P, rfl, hr0.1, by omega, hr0.2, hU, h0, ⟨hW⟩⟩
  case round =>
    obtain ⟨pre, f, p, rfl, hp1, hp2, hpf, HU, hJ, HW⟩ := hrel
    by_cases hp : 0 ≤ p
    · obtain ⟨k, rfl⟩ : ∃ k : Nat, p = k := ⟨p.toNat, by omega⟩
      obtain ⟨g, rfl⟩ : ∃ g, f = g + 1 := ⟨f - 1, by omega⟩
      have hu := HU.out
      rw [Ptr.upC_at, if_neg (by omega), Int.toNat_natCast] at hu
      have hul := congrArg List.length hu
      rw [List.length_append, List.length_cons] at hul
      have hrk := HG.out k (by omega)
      have k1 : (k : Int) < (l.length : Int) := by omega
      obtain ⟨fn, tmps, assign, body, hy, hR⟩ := hY pre k wr hJ (by omega)
      have HU2 := Kept.mk hu
      clear hY hu HU hul
      gi_wp2
      refine hR.mono ?_
      rintro e W3 (⟨rfl, hJ3, hk3⟩ | ⟨rfl, hJx3⟩)
      · have HW3 := Kept.mk (HW.out.trans hk3)
        have cT3 := cell_keep HW3.out HT.out
        have c3' := ((HR.out.below HW3.out).cells (i := k) (by omega)).2.2.2
        simp only at c3'
        have HU3 : Kept (U = (pre ++ [k]) ++ Ptr.upC l g (Ptr.par l k)) := ⟨by rw [HU2.out]; simp⟩
        generalize Ptr.par l k = P3 at c3' HU3 hrk
        gi_wp2
        go_roundw
        case rel => exact ⟨pre ++ [k], g, P3, rfl, by omega, by omega, by omega, HU3, hJ3, HW3⟩
        case measure => simp [intOf]; omega
      · gi_wp2
        refine bodyPost_ret (results_none rfl _ _ _) rfl ?_
        exact ⟨⟨_, rfl⟩, .inr ⟨_, trivial, hJx3⟩⟩
    · have hu := HU.out
      have : Ptr.upC l f p = [] := by
        cases f with
        | zero => rfl
        | succ g => rw [Ptr.upC_at, if_pos (by omega)]
      rw [this, List.append_nil] at hu
      clear hY
      subst hu
      gi_wp2
      go_end0
      exact ⟨⟨_, rfl⟩, .inl hJ⟩
set_option maxHeartbeats 1000000 in
theorem ancestors_any (A : Option Addr) (L c : Nat) (q : Int) (w : World) :
    Calls Tryz.prog 37 #[.slice A L c, .int .i64 q] w fun e w' => e = .returned (.func (.func 60) #[] #[.pointer (some ⟨w.heap.size, 0, none⟩), .pointer (some ⟨w.heap.size + 1, 0, none⟩)]) ∧
      w' = (w.alloc (.cells #[.slice A L c] 22)).alloc (.cells #[.int .i64 q] 3) := by
  go_enter Tryz.func37, Tryz.ntmps37
  go_wp2
  go_ret
  exact ⟨rfl, rfl⟩
theorem up_stops (n : Nat) (hn : 1 ≤ n) (Ba Bt : Nat) (A : Option Addr) (c : Nat) (l : List Ptr.Nd) (q : Nat) (hq : q < l.length) (hrng : Ptr.Rng l l.length) (w : World)
    (hr : RdN w A l) (hA : w.cell? ⟨Ba, 0, none⟩ = some (.int .i64 (q : Int))) (hT : w.cell? ⟨Bt, 0, none⟩ = some (.slice A l.length c)) :
    SeqStopsK Fence.wide n Tryz.prog 60 #[.pointer (some ⟨Bt, 0, none⟩), .pointer (some ⟨Ba, 0, none⟩)] encI (Below w.heap.size) (fun ys => ys = Ptr.upL l q) (fun _ => True) l.length w :=
  fun lp J Jx W hW _ _ hY h0 => up1_in n hn lp Ba Bt A c l q hq hrng w hr hA hT J Jx hY W hW h0
/-- slices.Collect over the ancestors: the row of their places -/
theorem up_call (A : Option Addr) (c : Nat) (l : List Ptr.Nd) (q : Nat) (hq : q < l.length) (hl : l.length ≤ 100000) (hrng : Ptr.Rng l l.length) (w w1 : World) (hw : w1 = (w.alloc (.cells #[.slice A l.length c] 22)).alloc (.cells #[.int .i64 (q : Int)] 3)) (hr : RdN w A l) :
    Calls Tryz.prog 35 #[.func (.func 60) #[] #[.pointer (some ⟨w.heap.size, 0, none⟩), .pointer (some ⟨w.heap.size + 1, 0, none⟩)]] w1 fun e w' =>
      ∃ v, e = .returned v ∧ w'.ownsRow w.heap.size 3 1 v (Ptr.upL l q).length (ic (Ptr.upL l q)) ∧ Below w.heap.size w w' := by
  subst hw
  have hb1 : Below w.heap.size w (w.alloc (.cells #[.slice A l.length c] 22)) := (Below.refl _ w).alloc (Nat.le_refl _) _
  have hb2 := hb1.alloc hb1.size (.cells #[.int .i64 (q : Int)] 3)
  have c0 : (w.alloc (.cells #[.slice A l.length c] 22)).cell? ⟨w.heap.size, 0, none⟩ = some (.slice A l.length c) := by rw [World.cell?_alloc_new]; rfl
  have c1 : ((w.alloc (.cells #[.slice A l.length c] 22)).alloc (.cells #[.int .i64 (q : Int)] 3)).cell? ⟨w.heap.size + 1, 0, none⟩ = some (.int .i64 (q : Int)) := by
    have := World.cell?_alloc_new (w.alloc (.cells #[.slice A l.length c] 22)) #[.int .i64 (q : Int)] 3 0
    rw [World.size_alloc] at this
    exact this
  have k0 := cell_keep ((Below.refl _ _).alloc (Nat.le_refl _) (.cells #[.int .i64 (q : Int)] 3)) c0
  refine (callsIn_wide.1 (collect_in Fence.wide 5 trivial trivial rfl (by omega) _ _ trivial (enters_of Tryz.func60 (by kernel_rfl) rfl) _ _ l.length (by omega) _ (up_stops 3 (by omega) _ _ A c l q hq hrng _ (hr.below hb2) c1 k0))).mono ?_
  rintro e w' ⟨v, xs, rfl, rfl, hO, hb⟩
  exact ⟨v, rfl, own_low hO (by simp; omega), hb2.trans (hb.mono hb2.size)⟩
end Go.Proofs.YtkcpfjhdbbapiaaGreatDoor.Wtr
namespace Go.Proofs.YtkcpfjhdbbapiaaGreatDoor.Wtr
open Go Go.RowKit Go.Shelf Go.Proofs.YtkcpfjhdbbapiaaGreatDoor.Kb Go.Proofs.YtkcpfjhdbbapiaaGreatDoor.Flt

/-- a node by another parent -/
def setP (x : Ptr.Nd) (z : Int) : Ptr.Nd := (x.1, x.2.1, x.2.2.1, z)
theorem ndsC_set : ∀ (L : List Ptr.Nd) (k : Nat) (z : Int), k < L.length → (ndsC L).set (k * 4 + 3) (.int .i64 z) = ndsC (L.set k (setP (L.getD k Ptr.nd0) z))
  | [], k, _, h => by simp at h
  | y :: L, 0, z, _ => by
    rw [show ndsC (y :: L) = ndC y ++ ndsC L from rfl, List.set_append_left _ _ (by simp [ndC])]
    rfl
  | y :: L, k + 1, z, h => by
    rw [show ndsC (y :: L) = ndC y ++ ndsC L from rfl, List.set_append_right _ _ (by simp [ndC]; omega), show (k + 1) * 4 + 3 - (ndC y).length = k * 4 + 3 by simp [ndC]; omega, ndsC_set L k z (by simpa using h)]
    rfl
/-- a stretch of nodes, the first k with their parents counted from its start -/
def partK (l : List Ptr.Nd) (i n k : Nat) : List Ptr.Nd := (List.range n).map fun j => (Ptr.kin l (i + j), Ptr.nam l (i + j), Ptr.val l (i + j), if j < k then Ptr.par l (i + j) - i else Ptr.par l (i + j))
theorem partK_len (l : List Ptr.Nd) (i n k : Nat) : (partK l i n k).length = n := by simp [partK]
theorem partK_get (l : List Ptr.Nd) (i n k j : Nat) (h : j < n) : (partK l i n k)[j]? = some (Ptr.kin l (i + j), Ptr.nam l (i + j), Ptr.val l (i + j), if j < k then Ptr.par l (i + j) - i else Ptr.par l (i + j)) := by
  unfold partK
  rw [List.getElem?_map, List.getElem?_range h]
  rfl
theorem partK_step (l : List Ptr.Nd) (i n k : Nat) (h : k < n) : (partK l i n k).set k (setP ((partK l i n k).getD k Ptr.nd0) (Ptr.par l (i + k) - i)) = partK l i n (k + 1) := by
  apply List.ext_getElem?
  intro j
  by_cases hj : j < n
  · rw [partK_get l i n (k + 1) j hj]
    by_cases e : k = j
    · subst e
      rw [List.getElem?_set_self (by rw [partK_len]; exact h), List.getD_eq_getElem?_getD, partK_get l i n k k h, if_pos (show k < k + 1 by omega)]
      rfl
    · rw [List.getElem?_set_ne e, partK_get l i n k j hj]
      by_cases h2 : j < k
      · rw [if_pos h2, if_pos (show j < k + 1 by omega)]
      · rw [if_neg h2, if_neg (show ¬ j < k + 1 by omega)]
  · rw [List.getElem?_eq_none (by simp [partK_len]; omega), List.getElem?_eq_none (by rw [partK_len]; omega)]
/-- a node's subtree as a fragment -/
def partN (l : List Ptr.Nd) (i : Nat) : List Ptr.Nd := (List.range (Ptr.endN l i - i)).map fun j => (Ptr.kin l (i + j), Ptr.nam l (i + j), Ptr.val l (i + j), if j = 0 then -1 else Ptr.par l (i + j) - i)
theorem partN_len (l : List Ptr.Nd) (i : Nat) : (partN l i).length = Ptr.endN l i - i := by simp [partN]
theorem partN_get (l : List Ptr.Nd) (i j : Nat) (h : j < Ptr.endN l i - i) : (partN l i)[j]? = some (Ptr.kin l (i + j), Ptr.nam l (i + j), Ptr.val l (i + j), if j = 0 then -1 else Ptr.par l (i + j) - i) := by
  unfold partN
  rw [List.getElem?_map, List.getElem?_range h]
  rfl
theorem partN_of (l : List Ptr.Nd) (i : Nat) (h : 0 < Ptr.endN l i - i) : (partK l i (Ptr.endN l i - i) (Ptr.endN l i - i)).set 0 (setP ((partK l i (Ptr.endN l i - i) (Ptr.endN l i - i)).getD 0 Ptr.nd0) (-1)) = partN l i := by
  apply List.ext_getElem?
  intro j
  by_cases hj : j < Ptr.endN l i - i
  · rw [partN_get l i j hj]
    by_cases e : 0 = j
    · subst e
      rw [List.getElem?_set_self (by rw [partK_len]; exact h), List.getD_eq_getElem?_getD, partK_get _ _ _ _ _ h, if_pos rfl]
      rfl
    · rw [List.getElem?_set_ne e, partK_get _ _ _ _ _ hj, if_pos hj, if_neg (fun h => e h.symm)]
  · rw [List.getElem?_eq_none (by simp [partK_len]; omega), List.getElem?_eq_none (by rw [partN_len]; omega)]
def partB (l : List Ptr.Nd) (a : Int) : List Ptr.Nd := if placeB l a = true then partN l a.toNat else []
theorem chk_all {l : List Ptr.Nd} {root : Bool} (h : Ptr.chk l root = 0) : Ptr.allB l root l.length = true := by
  unfold Ptr.chk at h
  split at h
  · cases h
  · split at h
    · cases h
    · rename_i h2
      simpa using h2
/-- a place is one of a right tree, or fragment -/
theorem place_good {l : List Ptr.Nd} {a : Int} (h : placeB l a = true) : ∃ root, Ptr.chk l root = 0 := by
  unfold placeB at h
  rw [Bool.and_eq_true, Bool.or_eq_true, beq_iff_eq, beq_iff_eq] at h
  rcases h.2 with h | h
  · exact ⟨true, h⟩
  · exact ⟨false, h⟩
theorem place_rng {l : List Ptr.Nd} {a : Int} (h : placeB l a = true) : Ptr.Rng l l.length ∧ ∀ k, k < l.length → Ptr.openB l k = true := by
  obtain ⟨root, h⟩ := place_good h
  exact ⟨Ptr.allB_rng (chk_all h), fun k hk => Ptr.good_open (Ptr.allB_good (chk_all h) k hk)⟩
theorem rdn_at {w : World} {b off : Nat} {l : List Ptr.Nd} (h : RdN w (some ⟨b, off, none⟩) l) (i n : Nat) (hn : i + n ≤ l.length) : ∀ j u, (ndsC (partK l i n 0))[j]? = some u → w.cell? ((⟨b, off + i * 4, none⟩ : Addr).add j) = some u := by
  intro j u hu
  have hj : j < n * 4 := by
    have := (List.getElem?_eq_some_iff.1 hu).1
    rwa [ndsC_length, partK_len] at this
  have hq : j / 4 < n := by omega
  have hg := ndsC_get _ (j / 4) _ (j % 4) (partK_get l i n 0 (j / 4) hq) (by omega)
  rw [show j / 4 * 4 + j % 4 = j by omega, hu, if_neg (by omega)] at hg
  obtain ⟨d0, d1, d2, d3⟩ := h.cells (i := i + j / 4) (by omega)
  rw [addr_add]
  have h4 : j % 4 = 0 ∨ j % 4 = 1 ∨ j % 4 = 2 ∨ j % 4 = 3 := by omega
  rcases h4 with h4 | h4 | h4 | h4
  · rw [h4] at hg
    rw [show off + i * 4 + j = off + (i + j / 4) * 4 by omega, d0]
    exact hg.symm
  · rw [h4] at hg
    rw [show off + i * 4 + j = off + (i + j / 4) * 4 + 1 by omega, d1]
    exact hg.symm
  · rw [h4] at hg
    rw [show off + i * 4 + j = off + (i + j / 4) * 4 + 2 by omega, d2]
    exact hg.symm
  · rw [h4] at hg
    rw [show off + i * 4 + j = off + (i + j / 4) * 4 + 3 by omega, d3]
    exact hg.symm
theorem clone_got {w w5 : World} {L : List Ptr.Nd} {n : Nat} {v' : Value} {o : Obj} (h0 : 0 < n) (hO : (w.alloc o).ownsRow w.heap.size 47 4 (.slice (some ⟨w.heap.size, 0, none⟩) 0 0) 0 []) (h : w5.ownsRow w.heap.size 47 4 v' (0 + n) ([] ++ ndsC L)) (hg : (w.alloc o).grownBy w5 (Value.ownBlock (.slice (some ⟨w.heap.size, 0, none⟩) 0 0))) :
    ∃ g c', v' = .slice (some ⟨g, 0, none⟩) n c' ∧ Kept (w5.ownsRow w.heap.size 47 4 (.slice (some ⟨g, 0, none⟩) n c') n (ndsC L)) ∧ Kept (Below w.heap.size w w5) := by
  rw [Nat.zero_add, List.nil_append] at h
  obtain ⟨g, c', rfl⟩ := Joins.ownsRow_form h h0
  exact ⟨g, c', rfl, ⟨h⟩, ⟨Below.grown ((Below.refl w.heap.size w).alloc (Nat.le_refl _) _) hg (by simp) (fun q hq => (hO.lt q hq).1)⟩⟩
set_option maxRecDepth 100000 in
set_option maxHeartbeats 1000000 in
/-- slices.Clone at a stretch of nodes -/
theorem clone_any (b off : Nat) (l : List Ptr.Nd) (i n c : Nat) (w : World) (hr : RdN w (some ⟨b, off, none⟩) l) (hn : i + n ≤ l.length) (h0 : 0 < n) (hl : l.length ≤ 100000) :
    Calls Tryz.prog 49 #[.slice (some ⟨b, off + i * 4, none⟩) n c] w fun e w' => ∃ g c', e = .returned (.slice (some ⟨g, 0, none⟩) n c') ∧ w'.ownsRow w.heap.size 47 4 (.slice (some ⟨g, 0, none⟩) n c') n (ndsC (partK l i n 0)) ∧ Below w.heap.size w w' := by
  obtain ⟨i0', hi, hz0, hz1, hz2⟩ := info_parts infoN
  have hnil : ∀ (w : World) (ad : Addr) (n c : Nat), (binOp .eql 22 (.slice (some ad) n c) (.slice none 0 0)).run Tryz.prog w = .ok (.bool false) w := fun w ad n c => Lib.run_eql_slice_nil w _ _ (some ad) n c 0 0 Tryz.underlying22
  have HR := Kept.mk hr
  have hc := Kept.mk (rdn_at (hr.below ((Below.refl _ _).alloc (Nat.le_refl _) (.cells #[] 47))) i n hn)
  have hO := Kept.mk (World.ownsRow_lit (base := w.heap.size) (e := 47) (size := 4) w #[] 0 (Nat.le_refl _) (by unfold maxLen; omega) rfl)
  clear hr
  go_enter Tryz.func49, Tryz.ntmps49
  go_wp2_with (at_builtin; refine wpList_append_own _ rfl (.tmp 5) (.tmp 6) 22 rfl w.heap.size 47 i0' (.agg #[.int .u8 0, .string ⟨#[]⟩, .string ⟨#[]⟩, .int .i64 0]) 4 48 Tryz.underlying22 hi hz0 hz1 hz2 rfl (by decide) _ 0 [] (by rfl) hO.out ⟨b, off + i * 4, none⟩ n c (ndsC (partK l i n 0)) (by rfl) (by rw [ndsC_length, partK_len]) hc.out (ndsC_one _) (by unfold maxLen; omega) (by omega) (by simp) ?_; intro v' w5 hown5 hgrow5 _; obtain ⟨g, c', rfl, O5, B5⟩ := clone_got h0 hO.out hown5 hgrow5; clear hown5 hgrow5)
  go_ret
  exact ⟨g, c', rfl, O5.out, B5.out⟩
set_option maxRecDepth 100000 in
set_option maxHeartbeats 4000000 in
theorem Part_any (A : Option Addr) (l : List Ptr.Nd) (c : Nat) (a : Int) (w : World) (hr : RdN w A l) (hl : l.length ≤ 100000) (hc : l.length ≤ c) (hf : FitP l) (hE : TEnv w) :
    Calls Tryz.prog 14 #[.slice A l.length c, .int .i64 a] w fun e w' => ∃ v, e = .returned v ∧ w'.ownsRow w.heap.size 47 4 v (partB l a).length (ndsC (partB l a)) ∧ Below w.heap.size w w' := by
  have cP := place_any A l c a w hr hl hf hE
  unfold partB
  cases hp : placeB l a with
  | false =>
    rw [hp] at cP
    have CP := Kept.mk cP
    rw [if_neg (by simp)]
    clear cP hr hf hE hp
    go_enter Tryz.func14, Tryz.ntmps14
    go_wp2_with (go_at_call 32; refine CP.out.mono ?_; rintro e w1 ⟨rfl, hb1⟩)
    go_ret
    exact ⟨_, rfl, World.ownsRow_nil _ _ _ _, hb1⟩
  | true =>
    obtain ⟨i, rfl, hi⟩ := place_in hp
    have hG := (place_rng hp).1
    rw [hp] at cP
    rw [if_pos rfl, Int.toNat_natCast]
    have cN := fun wx hx => end_any A l c i wx hx hi hl
    rw [endN_same] at cN
    obtain ⟨hn1, hn2, _, _⟩ := Ptr.endN_spec l i hi
    obtain ⟨b, off, rfl, _⟩ := hr.at_ hi
    have hPN := partN_of l i (by omega)
    have hPL := partN_len l i
    have cC := fun n c' wx hx hn h0 => clone_any b off l i n c' wx hx hn h0 hl
    generalize partN l i = PN at hPN hPL ⊢
    generalize Ptr.endN l i = N at cN hn1 hn2 hPN hPL ⊢
    obtain ⟨m, rfl⟩ : ∃ m, N = i + m := ⟨N - i, by omega⟩
    rw [Nat.add_sub_cancel_left] at hPN hPL
    have HR := Kept.mk hr
    have HG := Kept.mk hG
    have HPN := Kept.mk hPN
    have HPL := Kept.mk hPL
    have CP := Kept.mk cP
    have CN := Kept.mk cN
    have CC := Kept.mk cC
    have i0 : (0 : Int) ≤ (i : Int) := by omega
    have i1 : (i : Int) < (l.length : Int) := by omega
    have n0 : (i : Int) ≤ ((i + m : Nat) : Int) := by omega
    have n1 : ((i + m : Nat) : Int) ≤ (c : Int) := by omega
    have n2 : (0 : Int) ≤ ((i + m : Nat) : Int) := by omega
    clear cP cN cC hPN hPL hG hr hf hE hp
    go_enter Tryz.func14, Tryz.ntmps14
    go_wp2_with (first | (go_at_call 32; refine CP.out.mono ?_; rintro e w1 ⟨rfl, hb1⟩; have B1 := Kept.mk hb1; clear hb1) | (go_at_call 33; refine (CN.out _ (HR.out.below B1.out)).mono ?_; rintro e w2 ⟨rfl, rfl⟩) | (go_at_call 49; refine (CC.out _ _ _ (HR.out.below B1.out) (by omega) (by omega)).mono ?_; rintro e w3 ⟨g, c', rfl, hO, hb3⟩; have O3 := Kept.mk hO; have B3 := Kept.mk (B1.out.trans (hb3.mono B1.out.size)); clear hO hb3))
    go_loopw [6, 20] (fun _ j wx => ∃ k : Nat, k ≤ m ∧ j = .int .i64 (k : Int) ∧ Kept (wx.ownsRow w1.heap.size 47 4 (.slice (some ⟨g, 0, none⟩) m c') m (ndsC (partK l i m k))) ∧ Kept (Below w.heap.size w wx)) (fun _ j _ => m - (intOf j).toNat)
    case atStart => exact ⟨0, by omega, rfl, O3, B3⟩
    case round =>
      obtain ⟨k, hk, rfl, HO, HB⟩ := hrel
      have s3 := HB.out.size
      have k0 : (0 : Int) ≤ (k : Int) := by omega
      have g0 := (HO.out.lt g rfl).1
      have s1 := B1.out.size
      by_cases hlt : k < m
      · have k1 : (k : Int) < (m : Int) := by omega
        have cK := HO.out.cellAt (k * 4 + 3) (by omega)
        rw [ndsC_get _ k _ 3 (partK_get l i m k k hlt) (by omega), if_neg (by omega)] at cK
        have cF := HO.out.frozenAt (k * 4 + 3)
        have hst := (HO.out.stored (k * 4 + 3) (.int .i64 (Ptr.par l (i + k) - i))).1
        rw [ndsC_set _ k _ (by rw [partK_len]; exact hlt), partK_step l i m k hlt] at hst
        have hrk := HG.out (i + k) (by omega)
        have cK2 : wr.cell? ⟨g, k * 4 + 3, none⟩ = some (.int .i64 (Ptr.par l (i + k))) := cK
        clear cK
        generalize Ptr.par l (i + k) = P at cK2 hst hrk
        have O9 := Kept.mk hst
        have B9 := Kept.mk (HB.out.setCell (p := ⟨g, k * 4 + 3, none⟩) (by show w.heap.size ≤ g; omega) (.int .i64 (P - i)))
        clear hst
        go_wp2
        go_roundw
        case rel => exact ⟨k + 1, by omega, by go_num, O9, B9⟩
        case measure => simp [intOf]; omega
      · obtain rfl : k = m := by omega
        have cF := HO.out.frozenAt 3
        have cF2 : wr.frozen? ⟨g, 0 + 3, none⟩ = false := cF
        have cK := HO.out.cellAt (0 * 4 + 3) (by omega)
        rw [ndsC_get _ 0 _ 3 (partK_get l i k k 0 (by omega)) (by omega)] at cK
        have cK2 : ∃ z, wr.cell? ⟨g, 3, none⟩ = some (.int .i64 z) := ⟨_, cK⟩
        obtain ⟨z, cK3⟩ := cK2
        have hst := (HO.out.stored (0 * 4 + 3) (.int .i64 (-1))).1
        rw [ndsC_set _ 0 _ (by rw [partK_len]; omega), HPN.out] at hst
        have O9 := Kept.mk hst
        have B9 := Kept.mk (HB.out.setCell (p := ⟨g, 3, none⟩) (by show w.heap.size ≤ g; omega) (.int .i64 (-1)))
        have m0 : (0 : Int) < (k : Int) := by omega
        clear hst cK
        go_wp2
        go_ret
        exact ⟨_, rfl, by rw [HPL.out]; exact own_low O9.out s1, B9.out⟩
end Go.Proofs.YtkcpfjhdbbapiaaGreatDoor.Wtr
