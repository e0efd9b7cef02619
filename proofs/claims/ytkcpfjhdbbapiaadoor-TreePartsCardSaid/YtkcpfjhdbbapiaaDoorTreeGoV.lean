/- slices.DeleteFunc and slices.Reverse at rows of numbers of the call's own, out of the shelf's contracts (chapter 06). The walks over the predicates that Go hands to DeleteFunc, and over slices.Contains (chapter 06). The walks over Go, axis by axis (chapter 06). -/
import Derived.Shelf.SlicesE.DeleteFunc
import Derived.Shelf.Slices.Reverse
import Derived.Lib.OwnBridge
import Derived.Test.YtkcpfjhdbbapiaaDoorTreeSeq
import Derived.Test.YtkcpfjhdbbapiaaDoorShelfRev
import Derived.Test.YtkcpfjhdbbapiaaDoorTreePart
import Derived.BigQuiet
import Derived.Laws.OwnMore
namespace Go.Proofs.YtkcpfjhdbbapiaaDoor.Wtr
open Go Go.RowKit Go.Shelf Go.Sort Go.Proofs.YtkcpfjhdbbapiaaDoor.Kb Go.Proofs.YtkcpfjhdbbapiaaDoor.Flt

def del_ren : Go.Shelf.Ren := ⟨fun | 6 => 49 | 10 => 33 | n => n, fun | 0 => 0 | 3 => 3 | 4 => 4 | 22 => 35 | 23 => 3 | 25 => 48 | n => n, fun n => n⟩
theorem del_lays : Go.Proofs.SlLaysH.n10 Tryd.prog del_ren := {
  mixed := by kernel_rfl
  f6 := ⟨"slices.IndexFunc[[]int,int]", by decide, Tryd.func49.trans (congrArg some (by kernel_rfl))⟩
  f10 := ⟨"slices.DeleteFunc[[]int,int]", by decide, Tryd.func33.trans (congrArg some (by kernel_rfl))⟩
  t0 := Tryd.underlying0
  a0 := Tryd.isAgg0
  z0 := Tryd.sizeOf0
  v0 := Tryd.zeroValue0
  t3 := Tryd.underlying3
  a3 := Tryd.isAgg3
  z3 := Tryd.sizeOf3
  v3 := Tryd.zeroValue3
  t4 := Tryd.underlying4
  a4 := Tryd.isAgg4
  z4 := Tryd.sizeOf4
  v4 := Tryd.zeroValue4
  t22 := Tryd.underlying35
  a22 := Tryd.isAgg35
  z22 := Tryd.sizeOf35
  v22 := Tryd.zeroValue35
  a23 := Tryd.isAgg3
  z23 := Tryd.sizeOf3
  t25 := Tryd.underlying48
  a25 := Tryd.isAgg48
  z25 := Tryd.sizeOf48
  v25 := Tryd.zeroValue48 }
/-- places below a bound -/
abbrev Fin' (n : Nat) := { x : Nat // x < n }
def encF (n : Nat) (x : Fin' n) : Value := .int .i64 (x.1 : Int)
theorem lift_list {n : Nat} {L : List Nat} (h : ∀ x ∈ L, x < n) : ∃ M : List (Fin' n), M.map (·.1) = L := ⟨L.pmap (fun x hx => ⟨x, hx⟩) h, by
  rw [List.map_pmap]
  simp⟩
theorem enc_ic {n : Nat} (M : List (Fin' n)) : M.map (encF n) = ic (M.map (·.1)) := by
  unfold ic encF
  rw [List.map_map]
  rfl
/-- what a predicate that reads cells below B only is asked: it tells p, and does no more than draw -/
def Pred (B n fn : Nat) (lb : Array Value) (p : Nat → Bool) (w : World) : Prop :=
  ∀ (x : Nat) (W : World), x < n → (∀ a : Addr, a.block < B → W.cell? a = w.cell? a) → Calls Tryd.prog fn (#[.int .i64 (x : Int)] ++ lb) W fun e w' => e = .returned (.bool (p x)) ∧ ∃ q, w' = W.drewN q
set_option maxRecDepth 100000 in
/-- slices.DeleteFunc of a row of the call's own -/
theorem delete_own (n : Nat) (hn : 0 < n) (fn : Nat) (lb : Array Value) (eg : ∀ args w, (callFunc fn args).run Tryd.prog w = .ok (.enter fn args) w) (p : Nat → Bool) (L : List Nat) (hL : ∀ x ∈ L, x < n) (g c B : Nat) (w : World)
    (hO : w.ownsRow B 3 1 (.slice (some ⟨g, 0, none⟩) L.length c) L.length (ic L)) (hp : Pred B n fn lb p w) :
    Calls Tryd.prog 33 #[.slice (some ⟨g, 0, none⟩) L.length c, .func (.func fn) #[] lb] w fun e w' => ∃ v, e = .returned v ∧ w'.ownsRow B 3 1 v (L.filter fun x => !p x).length (ic (L.filter fun x => !p x)) ∧ Below B w w' := by
  obtain ⟨M, rfl⟩ := lift_list hL
  have i0 : Inhabited (Fin' n) := ⟨⟨0, hn⟩⟩
  have hO2 : w.ownsRow B 3 1 (.slice (some ⟨g, 0, none⟩) (M.map (·.1)).length c) (M.map (·.1)).length (M.map (encF n)) := by rw [enc_ic]; exact hO
  obtain ⟨g', c', hv, hB, hg, hnc, hcm, hl, hH⟩ := Lib.holds_of_ownsRow hO2 (by simp)
  obtain ⟨rfl, rfl⟩ : g = g' ∧ c = c' := by simpa using hv
  have hM : M.toArray.size = (M.map (·.1)).length := by simp
  have hcon := AnyE.slices_DeleteFunc del_lays (encF n) (fun _ => rfl) (fun x => p x.1) fn lb eg ⟨0, hn⟩ Tryd.zeroValue3 g 0 c M.toArray w
    (fun W x hb => hp x.1 W x.2 (fun a ha => hb.cell (p := a) (by omega)))
    (fun m os dk x _ => hp x.1 _ x.2 (fun a ha => by
      unfold sortWorld
      rw [cell?_grow _ _ _ (by show a.block < (putRow _ _ _ _ _).heap.size; rw [size_putRow]; show a.block < w.heap.size; omega), cell?_putRow_other _ _ g 0 _ _ (Or.inl (by omega))]
      rfl))
    hH (by rw [hM]; unfold maxLen at hcm; omega) (by rw [hM]; exact hnc)
  rw [hM] at hcon
  refine hcon.mono ?_
  rintro e w' ⟨rfl, q, rfl⟩
  have hfl : ((M.toArray.toList.filter fun x => !p x.1)).map (·.1) = (M.map (·.1)).filter fun x => !p x := by
    rw [List.filter_map]
    rfl
  have hlen : (M.toArray.toList.filter fun x => !p x.1).length ≤ (M.map (·.1)).length := by
    rw [List.length_map]
    exact List.length_filter_le _ _
  refine ⟨_, rfl, ?_, Lib.below_putRow (Below.refl _ _) hB⟩
  have hrow := Lib.ownsRow_putRow (q := q) (k := (M.toArray.toList.filter fun x => !p x.1).length) hO2 (ys := (M.toArray.toList.filter fun x => !p x.1) ++ List.replicate ((M.map (·.1)).length - (M.toArray.toList.filter fun x => !p x.1).length) ⟨0, hn⟩) (by rw [List.length_append, List.length_replicate]; omega) hlen
  rw [List.take_left, enc_ic, hfl] at hrow
  have hl2 : ((M.map (·.1)).filter fun x => !p x).length = (M.toArray.toList.filter fun x => !p x.1).length := by rw [← hfl, List.length_map]
  rw [hl2]
  exact hrow
set_option maxRecDepth 100000 in
/-- slices.Reverse of a row of the call's own -/
theorem reverse_own (L : List Nat) (g c B : Nat) (w : World) (hO : w.ownsRow B 3 1 (.slice (some ⟨g, 0, none⟩) L.length c) L.length (ic L)) :
    Calls Tryd.prog 34 #[.slice (some ⟨g, 0, none⟩) L.length c] w fun e w' => e = .returned (.tuple #[]) ∧ w'.ownsRow B 3 1 (.slice (some ⟨g, 0, none⟩) L.length c) L.length (ic L.reverse) ∧ Below B w w' := by
  have e1 : ∀ M : List Nat, ic M = (M.map fun (x : Nat) => (x : Int)).map (Value.int .i64) := fun M => by unfold ic; rw [List.map_map]; rfl
  rw [e1] at hO
  obtain ⟨g', c', hv, hB, hg, hnc, hcm, hl, hH⟩ := Lib.holds_of_ownsRow hO (by simp)
  obtain ⟨rfl, rfl⟩ : g = g' ∧ c = c' := by simpa using hv
  have hcon := Any.slices_Reverse_int Tryd.lays112 g 0 c (L.map fun (x : Nat) => (x : Int)) w hH (by rw [hl]; unfold maxLen at hcm; omega)
  rw [hl] at hcon
  refine hcon.mono ?_
  rintro e w' ⟨rfl, q, rfl⟩
  have hrow := Lib.ownsRow_putRow (q := q) (k := L.length) hO (ys := (L.map fun (x : Nat) => (x : Int)).reverse) (by simp) (Nat.le_refl _)
  rw [List.take_of_length_le (by simp), ← List.map_reverse, ← e1] at hrow
  exact ⟨rfl, by rw [← List.map_reverse]; exact hrow, Lib.below_putRow (Below.refl _ _) hB⟩
end Go.Proofs.YtkcpfjhdbbapiaaDoor.Wtr
namespace Go.Proofs.YtkcpfjhdbbapiaaDoor.Wtr
open Go Go.RowKit Go.Shelf Go.Proofs.YtkcpfjhdbbapiaaDoor.Kb Go.Proofs.YtkcpfjhdbbapiaaDoor.Flt

theorem rdn_same {w W : World} {b off B : Nat} {l : List Ptr.Nd} (h : RdN w (some ⟨b, off, none⟩) l) (hb : b < B) (hW : ∀ a : Addr, a.block < B → W.cell? a = w.cell? a) : RdN W (some ⟨b, off, none⟩) l := by
  intro hne
  obtain ⟨b', off', e, hc⟩ := h hne
  cases e
  exact ⟨b, off, rfl, fun j x hx => by
    obtain ⟨c0, c1, c2, c3⟩ := hc j x hx
    exact ⟨(hW ⟨b, _, none⟩ hb).trans c0, (hW ⟨b, _, none⟩ hb).trans c1, (hW ⟨b, _, none⟩ hb).trans c2, (hW ⟨b, _, none⟩ hb).trans c3⟩⟩
/-- is a place no sibling's? -/
def sibDel (l : List Ptr.Nd) (i x : Nat) : Bool := (Ptr.kin l i == 3) || (Ptr.par l x != Ptr.par l i)
set_option maxHeartbeats 1000000 in
theorem sib_pred (b off c i Bt Ba B : Nat) (l : List Ptr.Nd) (w : World) (hr : RdN w (some ⟨b, off, none⟩) l) (hb : b < B) (hBt : Bt < B) (hBa : Ba < B) (cT : w.cell? ⟨Bt, 0, none⟩ = some (.slice (some ⟨b, off, none⟩) l.length c)) (cA : w.cell? ⟨Ba, 0, none⟩ = some (.int .i64 (i : Int))) (hi : i < l.length) :
    Pred B l.length 28 #[.pointer (some ⟨Bt, 0, none⟩), .pointer (some ⟨Ba, 0, none⟩)] (sibDel l i) w := by
  intro x W hx hW
  have hr' := rdn_same hr hb hW
  have cT' := (hW ⟨Bt, 0, none⟩ hBt).trans cT
  have cA' := (hW ⟨Ba, 0, none⟩ hBa).trans cA
  obtain ⟨c0, _, _, c3⟩ := hr'.cells hi
  obtain ⟨_, _, _, d3⟩ := hr'.cells hx
  simp only at c0 c3 d3
  have e3 : (((Ptr.kin l i : Nat) : Int) == 3) = (Ptr.kin l i == 3) := beq_i _ 3
  have i0 : (0 : Int) ≤ (i : Int) := by omega
  have i1 : (i : Int) < (l.length : Int) := by omega
  have x0 : (0 : Int) ≤ (x : Int) := by omega
  have x1 : (x : Int) < (l.length : Int) := by omega
  have hS : Kept (sibDel l i x = ((Ptr.kin l i == 3) || (Ptr.par l x != Ptr.par l i))) := ⟨rfl⟩
  generalize sibDel l i x = S at hS ⊢
  generalize Ptr.kin l i = K at c0 e3 hS
  generalize (K == 3) = Z at e3 hS
  generalize Ptr.par l i = P at c3 hS
  generalize Ptr.par l x = Q at d3 hS
  clear hr hr' hW cT cA
  show Calls Tryd.prog 28 #[.int .i64 (x : Int), .pointer (some ⟨Bt, 0, none⟩), .pointer (some ⟨Ba, 0, none⟩)] W _
  cases Z with
  | true =>
    go_enter Tryd.func28, Tryd.ntmps28
    go_wp2
    go_quiet (fail)
    go_wp2
    go_ret
    exact ⟨ret_bool (by rw [hS.out]; rfl), _, rfl⟩
  | false =>
    go_enter Tryd.func28, Tryd.ntmps28
    go_wp2
    go_quiet (fail)
    go_wp2
    go_ret
    exact ⟨ret_bool (by rw [hS.out]; rfl), _, rfl⟩
def IdxR (L : List Nat) (x : Nat) (w : World) (e : Ending) (w' : World) : Prop := ∃ z : Int, e = .returned (.int .i64 z) ∧ (0 ≤ z ↔ x ∈ L) ∧ w = w'
/-- the cells of a row of numbers -/
def RdI (w : World) (A : Option Addr) (L : List Nat) : Prop := L ≠ [] → ∃ b, A = some ⟨b, 0, none⟩ ∧ ∀ j x, L[j]? = some x → w.cell? ⟨b, j, none⟩ = some (.int .i64 ((x : Nat) : Int))
theorem rdi_of_own {w : World} {base n c : Nat} {A : Option Addr} {L : List Nat} (h : w.ownsRow base 3 1 (.slice A n c) n (ic L)) : RdI w A L := by
  intro hne
  have hl := h.1
  rw [ic_length] at hl
  have hp := List.length_pos_iff.2 hne
  obtain ⟨g, c', hv, _⟩ := own_block h (by omega)
  obtain ⟨rfl, rfl⟩ : A = some ⟨g, 0, none⟩ ∧ c = c' := by simpa using hv
  exact ⟨g, rfl, fun j x hx => own_at h j _ (by unfold ic; rw [List.getElem?_map, hx]; rfl)⟩
set_option maxHeartbeats 1000000 in
theorem index_any (L : List Nat) (A : Option Addr) (c x : Nat) (w : World) (h : RdI w A L) (hl : L.length ≤ 100000) :
    Calls Tryd.prog 50 #[.slice A L.length c, .int .i64 x] w (IdxR L x w) := by
  have H := Kept.mk h
  clear h
  go_enter Tryd.func50, Tryd.ntmps50
  go_wp2
  go_loop [5, 8] (fun _ i => ∃ k : Nat, k ≤ L.length ∧ i = .int .i64 (k : Int) ∧ Kept (x ∉ L.take k)) (fun _ i => L.length - (intOf i).toNat)
  case atStart => exact ⟨0, by omega, rfl, ⟨by simp⟩⟩
  case round =>
    obtain ⟨k, hk, rfl, HN⟩ := hrel
    have k0 : (0 : Int) ≤ (k : Int) := by omega
    by_cases hlt : k < L.length
    · have k1 : (k : Int) < (L.length : Int) := by omega
      obtain ⟨b, rfl, hc⟩ := H.out (by intro e; subst e; simp at hlt)
      have hg := hc k _ (List.getElem?_eq_getElem hlt)
      have hmem : L[k]'hlt ∈ L := List.getElem_mem _
      have htk : L.take (k + 1) = L.take k ++ [L[k]'hlt] := List.take_succ_eq_append_getElem hlt
      generalize L[k]'hlt = y at hg hmem htk
      have HT := Kept.mk htk
      clear htk hc
      by_cases e : x = y
      · have e2 : ((x : Int) == (y : Int)) = true := by simp; omega
        have hx : Kept (x ∈ L) := ⟨by rw [e]; exact hmem⟩
        clear e hmem
        go_wp2
        go_ret
        exact ⟨_, rfl, ⟨fun _ => hx.out, fun _ => by omega⟩, rfl⟩
      · have e2 : ((x : Int) == (y : Int)) = false := by simp; omega
        have hx : Kept (x ∉ L.take (k + 1)) := ⟨by rw [HT.out]; simp only [List.mem_append, List.mem_singleton, not_or]; exact ⟨HN.out, e⟩⟩
        clear e hmem
        go_wp2
        go_round
        case rel => exact ⟨k + 1, by omega, by go_num, hx⟩
        case measure => simp [intOf]; omega
    · obtain rfl : k = L.length := by omega
      have hx : Kept (x ∉ L) := ⟨by have := HN.out; rwa [List.take_length] at this⟩
      go_wp2
      go_ret
      exact ⟨-1, rfl, ⟨fun h => absurd h (by omega), fun h => absurd h hx.out⟩, rfl⟩
set_option maxHeartbeats 1000000 in
theorem contains_any (L : List Nat) (A : Option Addr) (c x : Nat) (w : World) (h : RdI w A L) (hl : L.length ≤ 100000) :
    Calls Tryd.prog 36 #[.slice A L.length c, .int .i64 x] w fun e w' => e = .returned (.bool (decide (x ∈ L))) ∧ w = w' := by
  have CI := Kept.mk (index_any L A c x w h hl)
  clear h
  go_enter Tryd.func36, Tryd.ntmps36
  go_wp2_with (go_at_call 50; refine CI.out.mono ?_; rintro e w' ⟨z, rfl, hz, rfl⟩; have HZ := Kept.mk hz; clear hz)
  go_ret
  exact ⟨ret_bool (by rw [decide_eq_decide]; exact HZ.out), rfl⟩
set_option maxHeartbeats 1000000 in
theorem up_pred (L : List Nat) (A : Option Addr) (c n Bu B : Nat) (w : World) (h : ∀ W : World, (∀ a : Addr, a.block < B → W.cell? a = w.cell? a) → RdI W A L) (hl : L.length ≤ 100000) (hBu : Bu < B) (cU : w.cell? ⟨Bu, 0, none⟩ = some (.slice A L.length c)) :
    Pred B n 35 #[.pointer (some ⟨Bu, 0, none⟩)] (fun x => decide (x ∈ L)) w := by
  intro x W _ hW
  have CC := Kept.mk (contains_any L A c x W (h W hW) hl)
  have cU' := (hW ⟨Bu, 0, none⟩ hBu).trans cU
  clear hW h cU
  show Calls Tryd.prog 35 #[.int .i64 (x : Int), .pointer (some ⟨Bu, 0, none⟩)] W _
  go_enter Tryd.func35, Tryd.ntmps35
  go_wp2_with (go_at_call 36; refine CC.out.mono ?_; rintro e w' ⟨rfl, rfl⟩)
  go_ret
  exact ⟨rfl, 0, rfl⟩
set_option maxHeartbeats 1000000 in
theorem delete_nil (fn : Nat) (lb : Array Value) (w : World) :
    Calls Tryd.prog 33 #[.slice none 0 0, .func (.func fn) #[] lb] w fun e w' => e = .returned (.slice none 0 0) ∧ w = w' := by
  have cI : ∀ wx, Calls Tryd.prog 49 #[.slice none 0 0, .func (.func fn) #[] lb] wx fun e w' => e = .returned (.int .i64 (-1)) ∧ wx = w' := fun wx => by
    go_enter Tryd.func49, Tryd.ntmps49
    go_wp2
    go_loop [5, 8] (fun _ i => i = .int .i64 0) (fun _ _ => 0)
    case atStart => rfl
    case round =>
      obtain rfl := hrel
      go_wp2
      go_ret
      exact ⟨rfl, rfl⟩
  have CI := Kept.mk cI
  clear cI
  go_enter Tryd.func33, Tryd.ntmps33
  go_wp2_with (go_at_call 49; refine (CI.out _).mono ?_; rintro e w' ⟨rfl, rfl⟩)
  go_ret
  exact ⟨rfl, rfl⟩
theorem delete_row (n : Nat) (hn : 0 < n) (fn : Nat) (lb : Array Value) (eg : ∀ args w, (callFunc fn args).run Tryd.prog w = .ok (.enter fn args) w) (p : Nat → Bool) (L : List Nat) (hL : ∀ x ∈ L, x < n) (v : Value) (B : Nat) (w : World)
    (hO : w.ownsRow B 3 1 v L.length (ic L)) (hp : Pred B n fn lb p w) :
    Calls Tryd.prog 33 #[v, .func (.func fn) #[] lb] w fun e w' => ∃ v', e = .returned v' ∧ w'.ownsRow B 3 1 v' (L.filter fun x => !p x).length (ic (L.filter fun x => !p x)) ∧ Below B w w' := by
  rcases Joins.ownsRow_forms hO with ⟨rfl, h0⟩ | ⟨g, c, rfl⟩
  · obtain rfl : L = [] := List.length_eq_zero_iff.1 h0
    exact (delete_nil fn lb w).mono fun e w' ⟨he, hw⟩ => ⟨_, he, by subst hw; exact hO, by subst hw; exact Below.refl _ _⟩
  · exact delete_own n hn fn lb eg p L hL g c B w hO hp
theorem reverse_row (L : List Nat) (v : Value) (B : Nat) (w : World) (hO : w.ownsRow B 3 1 v L.length (ic L)) :
    Calls Tryd.prog 34 #[v] w fun e w' => e = .returned (.tuple #[]) ∧ w'.ownsRow B 3 1 v L.reverse.length (ic L.reverse) ∧ Below B w w' := by
  rw [List.length_reverse]
  rcases Joins.ownsRow_forms hO with ⟨rfl, h0⟩ | ⟨g, c, rfl⟩
  · obtain rfl : L = [] := List.length_eq_zero_iff.1 h0
    exact (Any.slices_Reverse_int_empty Tryd.lays112 none 0 w).mono fun e w' ⟨he, hw⟩ => ⟨he, by subst hw; exact hO, by subst hw; exact Below.refl _ _⟩
  · exact reverse_own L g c B w hO
end Go.Proofs.YtkcpfjhdbbapiaaDoor.Wtr
namespace Go.Proofs.YtkcpfjhdbbapiaaDoor.Wtr
open Go Go.RowKit Go.Shelf Go.Proofs.YtkcpfjhdbbapiaaDoor.Kb Go.Proofs.YtkcpfjhdbbapiaaDoor.Flt

/-- where an axis goes from a place -/
def goL (l : List Ptr.Nd) (i : Nat) (X : Int) : List Nat :=
  if X = 1 then Ptr.kidsL l i false (i + 1) (Ptr.endN l i)
  else if X = 9 then Ptr.kidsL l i true (i + 1) (Ptr.endN l i)
  else if X = 10 then [i]
  else if X = 3 then (if 0 ≤ Ptr.par l i then [(Ptr.par l i).toNat] else [])
  else if X = 4 then Ptr.upL l i
  else if X = 12 then i :: Ptr.upL l i
  else if X = 2 then stretchL l (i + 1) (Ptr.endN l i)
  else if X = 11 then i :: stretchL l (i + 1) (Ptr.endN l i)
  else if X = 5 then (stretchL l (Ptr.endN l i) l.length).filter fun x => !sibDel l i x
  else if X = 6 then ((stretchL l 0 i).filter fun x => !sibDel l i x).reverse
  else if X = 7 then stretchL l (Ptr.endN l i) l.length
  else if X = 8 then ((stretchL l 0 i).filter fun x => !decide (x ∈ Ptr.upL l i)).reverse
  else []
theorem own_one (w : World) (z : Nat) : (w.alloc (.cells #[.int .i64 (z : Int)] 3)).ownsRow w.heap.size 3 1 (.slice (some ⟨w.heap.size, 0, none⟩) 1 1) 1 (ic [z]) := by
  have := World.ownsRow_lit (base := w.heap.size) (e := 3) (size := 1) w #[.int .i64 (z : Int)] 1 (Nat.le_refl _) (by unfold maxLen; omega) rfl
  simpa [ic] using this
theorem stretch_mem {l : List Ptr.Nd} {a b x : Nat} (h : x ∈ stretchL l a b) (hb : b ≤ l.length) : x < l.length := by
  unfold stretchL at h
  have := List.mem_range'.1 (List.mem_filter.1 h).1
  omega
theorem blk_lt {w : World} {b off : Nat} {l : List Ptr.Nd} {i : Nat} (h : RdN w (some ⟨b, off, none⟩) l) (hi : i < l.length) : b < w.heap.size := Kb.cell_lt (h.cells hi).1
theorem len_filter (L : List Nat) (p : Nat → Bool) : (L.filter p).length ≤ L.length := List.length_filter_le _ _
set_option maxRecDepth 100000 in
set_option maxHeartbeats 4000000 in
theorem go_1 (A : Option Addr) (l : List Ptr.Nd) (c i : Nat) (w : World) (hr : RdN w A l) (hl : l.length ≤ 100000) (hf : FitP l) (hE : TEnv w) (hi : i < l.length) (hp : placeB l i = true) :
    Calls Tryd.prog 15 #[.slice A l.length c, .int .i64 i, .int .u8 1] w fun e w' => ∃ v, e = .returned v ∧ w'.ownsRow w.heap.size 3 1 v (goL l i 1).length (ic (goL l i 1)) ∧ Below w.heap.size w w' := by
  have hgo : goL l i 1 = Ptr.kidsL l i false (i + 1) (Ptr.endN l i) := rfl
  rw [hgo]
  clear hgo
  have cP := fun wx (hx : Below w.heap.size w wx) => place_any A l c i wx (hr.below hx) hl hf (hE.below hx)
  rw [hp] at cP
  have hrng := (place_rng hp).1
  have cN := fun wx hx => end_any A l c i wx hx hi hl
  rw [endN_same] at cN
  obtain ⟨hn1, hn2, _, _⟩ := Ptr.endN_spec l i hi
  have cK := fun wx w1 hw hx => kids_call A c l i hi false hl wx w1 hw hx
  generalize Ptr.kidsL l i false (i + 1) (Ptr.endN l i) = KL at cK ⊢
  generalize Ptr.endN l i = N at cN hn1 hn2
  have HR := Kept.mk hr
  have CP := Kept.mk cP
  have CN := Kept.mk cN
  have CK := Kept.mk cK
  have hb0 : Below w.heap.size w ((w.alloc (.cells #[.slice A l.length c] 22)).alloc (.cells #[.int .i64 i] 3)) := ((Below.refl _ _).alloc (Nat.le_refl _) _).alloc (by simp) _
  have HB0 := Kept.mk hb0
  have s0 : ((w.alloc (.cells #[.slice A l.length c] 22)).alloc (.cells #[.int .i64 i] 3)).cell? ⟨w.heap.size, 0, none⟩ = some (.slice A l.length c) := cell_keep ((Below.refl _ _).alloc (Nat.le_refl _) _) (by rw [World.cell?_alloc_new]; rfl)
  have s1 : ((w.alloc (.cells #[.slice A l.length c] 22)).alloc (.cells #[.int .i64 i] 3)).cell? ⟨w.heap.size + 1, 0, none⟩ = some (.int .i64 i) := by
    have := World.cell?_alloc_new (w.alloc (.cells #[.slice A l.length c] 22)) #[.int .i64 i] 3 0
    rw [World.size_alloc] at this
    exact this
  have HS0 := Kept.mk s0; have HS1 := Kept.mk s1
  have z0 : w.heap.size + 2 ≤ ((w.alloc (.cells #[.slice A l.length c] 22)).alloc (.cells #[.int .i64 i] 3)).heap.size := by simp
  clear hr hf hE hp cP cN hb0 s0 s1 hrng cK
  go_enter Tryd.func15, Tryd.ntmps15
  go_wp2_with (first | (go_at_call 26; refine (CP.out _ HB0.out).mono ?_; rintro e w1 ⟨rfl, hb1⟩; have c0 := cell_keep hb1 HS0.out; have c1 := cell_keep hb1 HS1.out; have z1 := Nat.le_trans z0 hb1.size; have HB1 := Kept.mk (HB0.out.trans (hb1.mono HB0.out.size)); clear hb1) | (go_at_call 27; refine (CN.out _ (HR.out.below HB1.out)).mono ?_; rintro e w2 ⟨rfl, rfl⟩) | (go_at_call 30; refine (kids_any _ _ _ _ _ _).mono ?_; rintro e w2 ⟨rfl, hw2⟩; have W2 := Kept.mk hw2; clear hw2) | (go_at_call 29; refine (CK.out _ _ W2.out (HR.out.below HB1.out)).mono ?_; rintro e w3 ⟨v, rfl, hO, hb3⟩))
  go_ret
  exact ⟨_, rfl, own_low hO HB1.out.size, HB1.out.trans (hb3.mono HB1.out.size)⟩
set_option maxRecDepth 100000 in
set_option maxHeartbeats 4000000 in
theorem go_9 (A : Option Addr) (l : List Ptr.Nd) (c i : Nat) (w : World) (hr : RdN w A l) (hl : l.length ≤ 100000) (hf : FitP l) (hE : TEnv w) (hi : i < l.length) (hp : placeB l i = true) :
    Calls Tryd.prog 15 #[.slice A l.length c, .int .i64 i, .int .u8 9] w fun e w' => ∃ v, e = .returned v ∧ w'.ownsRow w.heap.size 3 1 v (goL l i 9).length (ic (goL l i 9)) ∧ Below w.heap.size w w' := by
  have hgo : goL l i 9 = Ptr.kidsL l i true (i + 1) (Ptr.endN l i) := rfl
  rw [hgo]
  clear hgo
  have cP := fun wx (hx : Below w.heap.size w wx) => place_any A l c i wx (hr.below hx) hl hf (hE.below hx)
  rw [hp] at cP
  have hrng := (place_rng hp).1
  have cN := fun wx hx => end_any A l c i wx hx hi hl
  rw [endN_same] at cN
  obtain ⟨hn1, hn2, _, _⟩ := Ptr.endN_spec l i hi
  have cK := fun wx w1 hw hx => kids_call A c l i hi true hl wx w1 hw hx
  generalize Ptr.kidsL l i true (i + 1) (Ptr.endN l i) = KL at cK ⊢
  generalize Ptr.endN l i = N at cN hn1 hn2
  have HR := Kept.mk hr
  have CP := Kept.mk cP
  have CN := Kept.mk cN
  have CK := Kept.mk cK
  have hb0 : Below w.heap.size w ((w.alloc (.cells #[.slice A l.length c] 22)).alloc (.cells #[.int .i64 i] 3)) := ((Below.refl _ _).alloc (Nat.le_refl _) _).alloc (by simp) _
  have HB0 := Kept.mk hb0
  have s0 : ((w.alloc (.cells #[.slice A l.length c] 22)).alloc (.cells #[.int .i64 i] 3)).cell? ⟨w.heap.size, 0, none⟩ = some (.slice A l.length c) := cell_keep ((Below.refl _ _).alloc (Nat.le_refl _) _) (by rw [World.cell?_alloc_new]; rfl)
  have s1 : ((w.alloc (.cells #[.slice A l.length c] 22)).alloc (.cells #[.int .i64 i] 3)).cell? ⟨w.heap.size + 1, 0, none⟩ = some (.int .i64 i) := by
    have := World.cell?_alloc_new (w.alloc (.cells #[.slice A l.length c] 22)) #[.int .i64 i] 3 0
    rw [World.size_alloc] at this
    exact this
  have HS0 := Kept.mk s0; have HS1 := Kept.mk s1
  have z0 : w.heap.size + 2 ≤ ((w.alloc (.cells #[.slice A l.length c] 22)).alloc (.cells #[.int .i64 i] 3)).heap.size := by simp
  clear hr hf hE hp cP cN hb0 s0 s1 hrng cK
  go_enter Tryd.func15, Tryd.ntmps15
  go_wp2_with (first | (go_at_call 26; refine (CP.out _ HB0.out).mono ?_; rintro e w1 ⟨rfl, hb1⟩; have c0 := cell_keep hb1 HS0.out; have c1 := cell_keep hb1 HS1.out; have z1 := Nat.le_trans z0 hb1.size; have HB1 := Kept.mk (HB0.out.trans (hb1.mono HB0.out.size)); clear hb1) | (go_at_call 27; refine (CN.out _ (HR.out.below HB1.out)).mono ?_; rintro e w2 ⟨rfl, rfl⟩) | (go_at_call 30; refine (kids_any _ _ _ _ _ _).mono ?_; rintro e w2 ⟨rfl, hw2⟩; have W2 := Kept.mk hw2; clear hw2) | (go_at_call 29; refine (CK.out _ _ W2.out (HR.out.below HB1.out)).mono ?_; rintro e w3 ⟨v, rfl, hO, hb3⟩))
  go_ret
  exact ⟨_, rfl, own_low hO HB1.out.size, HB1.out.trans (hb3.mono HB1.out.size)⟩
set_option maxRecDepth 100000 in
set_option maxHeartbeats 4000000 in
theorem go_10 (A : Option Addr) (l : List Ptr.Nd) (c i : Nat) (w : World) (hr : RdN w A l) (hl : l.length ≤ 100000) (hf : FitP l) (hE : TEnv w) (hi : i < l.length) (hp : placeB l i = true) :
    Calls Tryd.prog 15 #[.slice A l.length c, .int .i64 i, .int .u8 10] w fun e w' => ∃ v, e = .returned v ∧ w'.ownsRow w.heap.size 3 1 v (goL l i 10).length (ic (goL l i 10)) ∧ Below w.heap.size w w' := by
  have hgo : goL l i 10 = [i] := rfl
  rw [hgo]
  clear hgo
  have cP := fun wx (hx : Below w.heap.size w wx) => place_any A l c i wx (hr.below hx) hl hf (hE.below hx)
  rw [hp] at cP
  have hrng := (place_rng hp).1
  have cN := fun wx hx => end_any A l c i wx hx hi hl
  rw [endN_same] at cN
  obtain ⟨hn1, hn2, _, _⟩ := Ptr.endN_spec l i hi
  generalize Ptr.endN l i = N at cN hn1 hn2
  have HR := Kept.mk hr
  have CP := Kept.mk cP
  have CN := Kept.mk cN
  have hb0 : Below w.heap.size w ((w.alloc (.cells #[.slice A l.length c] 22)).alloc (.cells #[.int .i64 i] 3)) := ((Below.refl _ _).alloc (Nat.le_refl _) _).alloc (by simp) _
  have HB0 := Kept.mk hb0
  have s0 : ((w.alloc (.cells #[.slice A l.length c] 22)).alloc (.cells #[.int .i64 i] 3)).cell? ⟨w.heap.size, 0, none⟩ = some (.slice A l.length c) := cell_keep ((Below.refl _ _).alloc (Nat.le_refl _) _) (by rw [World.cell?_alloc_new]; rfl)
  have s1 : ((w.alloc (.cells #[.slice A l.length c] 22)).alloc (.cells #[.int .i64 i] 3)).cell? ⟨w.heap.size + 1, 0, none⟩ = some (.int .i64 i) := by
    have := World.cell?_alloc_new (w.alloc (.cells #[.slice A l.length c] 22)) #[.int .i64 i] 3 0
    rw [World.size_alloc] at this
    exact this
  have HS0 := Kept.mk s0; have HS1 := Kept.mk s1
  have z0 : w.heap.size + 2 ≤ ((w.alloc (.cells #[.slice A l.length c] 22)).alloc (.cells #[.int .i64 i] 3)).heap.size := by simp
  clear hr hf hE hp cP cN hb0 s0 s1 hrng
  go_enter Tryd.func15, Tryd.ntmps15
  go_wp2_with (first | (go_at_call 26; refine (CP.out _ HB0.out).mono ?_; rintro e w1 ⟨rfl, hb1⟩; have c0 := cell_keep hb1 HS0.out; have c1 := cell_keep hb1 HS1.out; have z1 := Nat.le_trans z0 hb1.size; have HB1 := Kept.mk (HB0.out.trans (hb1.mono HB0.out.size)); clear hb1) | (go_at_call 27; refine (CN.out _ (HR.out.below HB1.out)).mono ?_; rintro e w2 ⟨rfl, rfl⟩))
  go_ret
  exact ⟨_, rfl, own_low (own_one w1 i) HB1.out.size, HB1.out.alloc HB1.out.size _⟩
set_option maxRecDepth 100000 in
set_option maxHeartbeats 4000000 in
theorem go_4 (A : Option Addr) (l : List Ptr.Nd) (c i : Nat) (w : World) (hr : RdN w A l) (hl : l.length ≤ 100000) (hf : FitP l) (hE : TEnv w) (hi : i < l.length) (hp : placeB l i = true) :
    Calls Tryd.prog 15 #[.slice A l.length c, .int .i64 i, .int .u8 4] w fun e w' => ∃ v, e = .returned v ∧ w'.ownsRow w.heap.size 3 1 v (goL l i 4).length (ic (goL l i 4)) ∧ Below w.heap.size w w' := by
  have hgo : goL l i 4 = Ptr.upL l i := rfl
  rw [hgo]
  clear hgo
  have cP := fun wx (hx : Below w.heap.size w wx) => place_any A l c i wx (hr.below hx) hl hf (hE.below hx)
  rw [hp] at cP
  have hrng := (place_rng hp).1
  have cN := fun wx hx => end_any A l c i wx hx hi hl
  rw [endN_same] at cN
  obtain ⟨hn1, hn2, _, _⟩ := Ptr.endN_spec l i hi
  have cK := fun wx w1 hw hx => up_call A c l i hi hl hrng wx w1 hw hx
  generalize Ptr.upL l i = KL at cK ⊢
  generalize Ptr.endN l i = N at cN hn1 hn2
  have HR := Kept.mk hr
  have CP := Kept.mk cP
  have CN := Kept.mk cN
  have CK := Kept.mk cK
  have hb0 : Below w.heap.size w ((w.alloc (.cells #[.slice A l.length c] 22)).alloc (.cells #[.int .i64 i] 3)) := ((Below.refl _ _).alloc (Nat.le_refl _) _).alloc (by simp) _
  have HB0 := Kept.mk hb0
  have s0 : ((w.alloc (.cells #[.slice A l.length c] 22)).alloc (.cells #[.int .i64 i] 3)).cell? ⟨w.heap.size, 0, none⟩ = some (.slice A l.length c) := cell_keep ((Below.refl _ _).alloc (Nat.le_refl _) _) (by rw [World.cell?_alloc_new]; rfl)
  have s1 : ((w.alloc (.cells #[.slice A l.length c] 22)).alloc (.cells #[.int .i64 i] 3)).cell? ⟨w.heap.size + 1, 0, none⟩ = some (.int .i64 i) := by
    have := World.cell?_alloc_new (w.alloc (.cells #[.slice A l.length c] 22)) #[.int .i64 i] 3 0
    rw [World.size_alloc] at this
    exact this
  have HS0 := Kept.mk s0; have HS1 := Kept.mk s1
  have z0 : w.heap.size + 2 ≤ ((w.alloc (.cells #[.slice A l.length c] 22)).alloc (.cells #[.int .i64 i] 3)).heap.size := by simp
  clear hr hf hE hp cP cN hb0 s0 s1 hrng cK
  go_enter Tryd.func15, Tryd.ntmps15
  go_wp2_with (first | (go_at_call 26; refine (CP.out _ HB0.out).mono ?_; rintro e w1 ⟨rfl, hb1⟩; have c0 := cell_keep hb1 HS0.out; have c1 := cell_keep hb1 HS1.out; have z1 := Nat.le_trans z0 hb1.size; have HB1 := Kept.mk (HB0.out.trans (hb1.mono HB0.out.size)); clear hb1) | (go_at_call 27; refine (CN.out _ (HR.out.below HB1.out)).mono ?_; rintro e w2 ⟨rfl, rfl⟩) | (go_at_call 31; refine (ancestors_any _ _ _ _ _).mono ?_; rintro e w2 ⟨rfl, hw2⟩; have W2 := Kept.mk hw2; clear hw2) | (go_at_call 29; refine (CK.out _ _ W2.out (HR.out.below HB1.out)).mono ?_; rintro e w3 ⟨v, rfl, hO, hb3⟩))
  go_ret
  exact ⟨_, rfl, own_low hO HB1.out.size, HB1.out.trans (hb3.mono HB1.out.size)⟩
set_option maxRecDepth 100000 in
set_option maxHeartbeats 4000000 in
theorem go_2 (A : Option Addr) (l : List Ptr.Nd) (c i : Nat) (w : World) (hr : RdN w A l) (hl : l.length ≤ 100000) (hf : FitP l) (hE : TEnv w) (hi : i < l.length) (hp : placeB l i = true) :
    Calls Tryd.prog 15 #[.slice A l.length c, .int .i64 i, .int .u8 2] w fun e w' => ∃ v, e = .returned v ∧ w'.ownsRow w.heap.size 3 1 v (goL l i 2).length (ic (goL l i 2)) ∧ Below w.heap.size w w' := by
  have hgo : goL l i 2 = stretchL l (i + 1) (Ptr.endN l i) := rfl
  rw [hgo]
  clear hgo
  have cP := fun wx (hx : Below w.heap.size w wx) => place_any A l c i wx (hr.below hx) hl hf (hE.below hx)
  rw [hp] at cP
  have hrng := (place_rng hp).1
  have cN := fun wx hx => end_any A l c i wx hx hi hl
  rw [endN_same] at cN
  obtain ⟨hn1, hn2, _, _⟩ := Ptr.endN_spec l i hi
  have cS := fun wx hx => stretch_any A l c (i + 1) (Ptr.endN l i) wx hx (by omega) (by omega) hl
  rw [show (((i + 1 : Nat) : Int)) = (i : Int) + 1 from rfl] at cS
  generalize Ptr.endN l i = N at cN hn1 hn2 cS ⊢
  have HR := Kept.mk hr
  have CP := Kept.mk cP
  have CN := Kept.mk cN
  have i0 : (0 : Int) ≤ (i : Int) := by omega
  have i1 : (i : Int) < (l.length : Int) := by omega
  have CS := Kept.mk cS
  have hb0 : Below w.heap.size w ((w.alloc (.cells #[.slice A l.length c] 22)).alloc (.cells #[.int .i64 i] 3)) := ((Below.refl _ _).alloc (Nat.le_refl _) _).alloc (by simp) _
  have HB0 := Kept.mk hb0
  have s0 : ((w.alloc (.cells #[.slice A l.length c] 22)).alloc (.cells #[.int .i64 i] 3)).cell? ⟨w.heap.size, 0, none⟩ = some (.slice A l.length c) := cell_keep ((Below.refl _ _).alloc (Nat.le_refl _) _) (by rw [World.cell?_alloc_new]; rfl)
  have s1 : ((w.alloc (.cells #[.slice A l.length c] 22)).alloc (.cells #[.int .i64 i] 3)).cell? ⟨w.heap.size + 1, 0, none⟩ = some (.int .i64 i) := by
    have := World.cell?_alloc_new (w.alloc (.cells #[.slice A l.length c] 22)) #[.int .i64 i] 3 0
    rw [World.size_alloc] at this
    exact this
  have HS0 := Kept.mk s0; have HS1 := Kept.mk s1
  have z0 : w.heap.size + 2 ≤ ((w.alloc (.cells #[.slice A l.length c] 22)).alloc (.cells #[.int .i64 i] 3)).heap.size := by simp
  clear hr hf hE hp cP cN hb0 s0 s1 hrng cS
  go_enter Tryd.func15, Tryd.ntmps15
  go_wp2_with (first | (go_at_call 26; refine (CP.out _ HB0.out).mono ?_; rintro e w1 ⟨rfl, hb1⟩; have c0 := cell_keep hb1 HS0.out; have c1 := cell_keep hb1 HS1.out; have z1 := Nat.le_trans z0 hb1.size; have HB1 := Kept.mk (HB0.out.trans (hb1.mono HB0.out.size)); clear hb1) | (go_at_call 27; refine (CN.out _ (HR.out.below HB1.out)).mono ?_; rintro e w2 ⟨rfl, rfl⟩) | (go_at_call 32; refine (CS.out _ (HR.out.below HB1.out)).mono ?_; rintro e w3 ⟨v, rfl, hO, hb3⟩))
  go_ret
  exact ⟨_, rfl, own_low hO HB1.out.size, HB1.out.trans (hb3.mono HB1.out.size)⟩
set_option maxRecDepth 100000 in
set_option maxHeartbeats 4000000 in
theorem go_7 (A : Option Addr) (l : List Ptr.Nd) (c i : Nat) (w : World) (hr : RdN w A l) (hl : l.length ≤ 100000) (hf : FitP l) (hE : TEnv w) (hi : i < l.length) (hp : placeB l i = true) :
    Calls Tryd.prog 15 #[.slice A l.length c, .int .i64 i, .int .u8 7] w fun e w' => ∃ v, e = .returned v ∧ w'.ownsRow w.heap.size 3 1 v (goL l i 7).length (ic (goL l i 7)) ∧ Below w.heap.size w w' := by
  have hgo : goL l i 7 = stretchL l (Ptr.endN l i) l.length := rfl
  rw [hgo]
  clear hgo
  have cP := fun wx (hx : Below w.heap.size w wx) => place_any A l c i wx (hr.below hx) hl hf (hE.below hx)
  rw [hp] at cP
  have hrng := (place_rng hp).1
  have cN := fun wx hx => end_any A l c i wx hx hi hl
  rw [endN_same] at cN
  obtain ⟨hn1, hn2, _, _⟩ := Ptr.endN_spec l i hi
  have cS := fun wx hx => stretch_any A l c (Ptr.endN l i) l.length wx hx (by omega) (by omega) hl
  generalize Ptr.endN l i = N at cN hn1 hn2 cS ⊢
  have HR := Kept.mk hr
  have CP := Kept.mk cP
  have CN := Kept.mk cN
  have CS := Kept.mk cS
  have hb0 : Below w.heap.size w ((w.alloc (.cells #[.slice A l.length c] 22)).alloc (.cells #[.int .i64 i] 3)) := ((Below.refl _ _).alloc (Nat.le_refl _) _).alloc (by simp) _
  have HB0 := Kept.mk hb0
  have s0 : ((w.alloc (.cells #[.slice A l.length c] 22)).alloc (.cells #[.int .i64 i] 3)).cell? ⟨w.heap.size, 0, none⟩ = some (.slice A l.length c) := cell_keep ((Below.refl _ _).alloc (Nat.le_refl _) _) (by rw [World.cell?_alloc_new]; rfl)
  have s1 : ((w.alloc (.cells #[.slice A l.length c] 22)).alloc (.cells #[.int .i64 i] 3)).cell? ⟨w.heap.size + 1, 0, none⟩ = some (.int .i64 i) := by
    have := World.cell?_alloc_new (w.alloc (.cells #[.slice A l.length c] 22)) #[.int .i64 i] 3 0
    rw [World.size_alloc] at this
    exact this
  have HS0 := Kept.mk s0; have HS1 := Kept.mk s1
  have z0 : w.heap.size + 2 ≤ ((w.alloc (.cells #[.slice A l.length c] 22)).alloc (.cells #[.int .i64 i] 3)).heap.size := by simp
  clear hr hf hE hp cP cN hb0 s0 s1 hrng cS
  go_enter Tryd.func15, Tryd.ntmps15
  go_wp2_with (first | (go_at_call 26; refine (CP.out _ HB0.out).mono ?_; rintro e w1 ⟨rfl, hb1⟩; have c0 := cell_keep hb1 HS0.out; have c1 := cell_keep hb1 HS1.out; have z1 := Nat.le_trans z0 hb1.size; have HB1 := Kept.mk (HB0.out.trans (hb1.mono HB0.out.size)); clear hb1) | (go_at_call 27; refine (CN.out _ (HR.out.below HB1.out)).mono ?_; rintro e w2 ⟨rfl, rfl⟩) | (go_at_call 32; refine (CS.out _ (HR.out.below HB1.out)).mono ?_; rintro e w3 ⟨v, rfl, hO, hb3⟩))
  go_ret
  exact ⟨_, rfl, own_low hO HB1.out.size, HB1.out.trans (hb3.mono HB1.out.size)⟩
set_option maxRecDepth 100000 in
set_option maxHeartbeats 4000000 in
theorem go_5 (A : Option Addr) (l : List Ptr.Nd) (c i : Nat) (w : World) (hr : RdN w A l) (hl : l.length ≤ 100000) (hf : FitP l) (hE : TEnv w) (hi : i < l.length) (hp : placeB l i = true) :
    Calls Tryd.prog 15 #[.slice A l.length c, .int .i64 i, .int .u8 5] w fun e w' => ∃ v, e = .returned v ∧ w'.ownsRow w.heap.size 3 1 v (goL l i 5).length (ic (goL l i 5)) ∧ Below w.heap.size w w' := by
  have hgo : goL l i 5 = (stretchL l (Ptr.endN l i) l.length).filter fun x => !sibDel l i x := rfl
  rw [hgo]
  clear hgo
  have cP := fun wx (hx : Below w.heap.size w wx) => place_any A l c i wx (hr.below hx) hl hf (hE.below hx)
  rw [hp] at cP
  have hrng := (place_rng hp).1
  have cN := fun wx hx => end_any A l c i wx hx hi hl
  rw [endN_same] at cN
  obtain ⟨hn1, hn2, _, _⟩ := Ptr.endN_spec l i hi
  have cS := fun wx hx => stretch_any A l c (Ptr.endN l i) l.length wx hx (by omega) (by omega) hl
  have hm : ∀ x ∈ stretchL l (Ptr.endN l i) l.length, x < l.length := fun x hx => stretch_mem hx (by omega)
  generalize Ptr.endN l i = N at cN hn1 hn2 cS hm ⊢
  have HR := Kept.mk hr
  have CP := Kept.mk cP
  have CN := Kept.mk cN
  have CS := Kept.mk cS; have HM := Kept.mk hm
  have HI := Kept.mk hi
  have hAb := hr.at_ hi
  obtain ⟨b, off, rfl, _⟩ := hAb
  have hblt := blk_lt hr hi
  have hb0 : Below w.heap.size w ((w.alloc (.cells #[.slice (some ⟨b, off, none⟩) l.length c] 22)).alloc (.cells #[.int .i64 i] 3)) := ((Below.refl _ _).alloc (Nat.le_refl _) _).alloc (by simp) _
  have HB0 := Kept.mk hb0
  have s0 : ((w.alloc (.cells #[.slice (some ⟨b, off, none⟩) l.length c] 22)).alloc (.cells #[.int .i64 i] 3)).cell? ⟨w.heap.size, 0, none⟩ = some (.slice (some ⟨b, off, none⟩) l.length c) := cell_keep ((Below.refl _ _).alloc (Nat.le_refl _) _) (by rw [World.cell?_alloc_new]; rfl)
  have s1 : ((w.alloc (.cells #[.slice (some ⟨b, off, none⟩) l.length c] 22)).alloc (.cells #[.int .i64 i] 3)).cell? ⟨w.heap.size + 1, 0, none⟩ = some (.int .i64 i) := by
    have := World.cell?_alloc_new (w.alloc (.cells #[.slice (some ⟨b, off, none⟩) l.length c] 22)) #[.int .i64 i] 3 0
    rw [World.size_alloc] at this
    exact this
  have HS0 := Kept.mk s0; have HS1 := Kept.mk s1
  have z0 : w.heap.size + 2 ≤ ((w.alloc (.cells #[.slice (some ⟨b, off, none⟩) l.length c] 22)).alloc (.cells #[.int .i64 i] 3)).heap.size := by simp
  clear hr hf hE hp cP cN hb0 s0 s1 hrng cS hm
  go_enter Tryd.func15, Tryd.ntmps15
  go_wp2_with (first | (go_at_call 26; refine (CP.out _ HB0.out).mono ?_; rintro e w1 ⟨rfl, hb1⟩; have c0 := cell_keep hb1 HS0.out; have c1 := cell_keep hb1 HS1.out; have z1 := Nat.le_trans z0 hb1.size; have HB1 := Kept.mk (HB0.out.trans (hb1.mono HB0.out.size)); clear hb1) | (go_at_call 27; refine (CN.out _ (HR.out.below HB1.out)).mono ?_; rintro e w2 ⟨rfl, rfl⟩) | (go_at_call 32; refine (CS.out _ (HR.out.below HB1.out)).mono ?_; rintro e w3 ⟨v, rfl, hO, hb3⟩; have HB3 := Kept.mk (HB1.out.trans (hb3.mono HB1.out.size)); have c03 := cell_keep hb3 c0; have c13 := cell_keep hb3 c1; have O3 := Kept.mk hO; clear hO hb3) | (go_at_call 33; refine (delete_row l.length (by have := HI.out; omega) 28 _ (enters_of Tryd.func28 (by kernel_rfl) rfl) (sibDel l i) _ HM.out v w1.heap.size w3 O3.out (sib_pred b off c i w.heap.size (w.heap.size + 1) w1.heap.size l w3 (HR.out.below HB3.out) (by omega) (by omega) (by omega) c03 c13 HI.out)).mono ?_; rintro e w4 ⟨v4, rfl, hO4, hb4⟩; have O4 := Kept.mk hO4; have HB4 := Kept.mk (HB3.out.trans (hb4.mono HB1.out.size)); clear hO4 hb4))
  go_ret
  exact ⟨_, rfl, own_low O4.out HB1.out.size, HB4.out⟩
set_option maxRecDepth 100000 in
set_option maxHeartbeats 4000000 in
theorem go_6 (A : Option Addr) (l : List Ptr.Nd) (c i : Nat) (w : World) (hr : RdN w A l) (hl : l.length ≤ 100000) (hf : FitP l) (hE : TEnv w) (hi : i < l.length) (hp : placeB l i = true) :
    Calls Tryd.prog 15 #[.slice A l.length c, .int .i64 i, .int .u8 6] w fun e w' => ∃ v, e = .returned v ∧ w'.ownsRow w.heap.size 3 1 v (goL l i 6).length (ic (goL l i 6)) ∧ Below w.heap.size w w' := by
  have hgo : goL l i 6 = ((stretchL l 0 i).filter fun x => !sibDel l i x).reverse := rfl
  rw [hgo]
  clear hgo
  have cP := fun wx (hx : Below w.heap.size w wx) => place_any A l c i wx (hr.below hx) hl hf (hE.below hx)
  rw [hp] at cP
  have hrng := (place_rng hp).1
  have cN := fun wx hx => end_any A l c i wx hx hi hl
  rw [endN_same] at cN
  obtain ⟨hn1, hn2, _, _⟩ := Ptr.endN_spec l i hi
  have cS := fun wx hx => stretch_any A l c 0 i wx hx (by omega) (by omega) hl
  have hm : ∀ x ∈ stretchL l 0 i, x < l.length := fun x hx => stretch_mem hx (by omega)
  generalize Ptr.endN l i = N at cN hn1 hn2
  have HR := Kept.mk hr
  have CP := Kept.mk cP
  have CN := Kept.mk cN
  have CS := Kept.mk cS; have HM := Kept.mk hm
  have HI := Kept.mk hi
  have hAb := hr.at_ hi
  obtain ⟨b, off, rfl, _⟩ := hAb
  have hblt := blk_lt hr hi
  have hb0 : Below w.heap.size w ((w.alloc (.cells #[.slice (some ⟨b, off, none⟩) l.length c] 22)).alloc (.cells #[.int .i64 i] 3)) := ((Below.refl _ _).alloc (Nat.le_refl _) _).alloc (by simp) _
  have HB0 := Kept.mk hb0
  have s0 : ((w.alloc (.cells #[.slice (some ⟨b, off, none⟩) l.length c] 22)).alloc (.cells #[.int .i64 i] 3)).cell? ⟨w.heap.size, 0, none⟩ = some (.slice (some ⟨b, off, none⟩) l.length c) := cell_keep ((Below.refl _ _).alloc (Nat.le_refl _) _) (by rw [World.cell?_alloc_new]; rfl)
  have s1 : ((w.alloc (.cells #[.slice (some ⟨b, off, none⟩) l.length c] 22)).alloc (.cells #[.int .i64 i] 3)).cell? ⟨w.heap.size + 1, 0, none⟩ = some (.int .i64 i) := by
    have := World.cell?_alloc_new (w.alloc (.cells #[.slice (some ⟨b, off, none⟩) l.length c] 22)) #[.int .i64 i] 3 0
    rw [World.size_alloc] at this
    exact this
  have HS0 := Kept.mk s0; have HS1 := Kept.mk s1
  have z0 : w.heap.size + 2 ≤ ((w.alloc (.cells #[.slice (some ⟨b, off, none⟩) l.length c] 22)).alloc (.cells #[.int .i64 i] 3)).heap.size := by simp
  clear hr hf hE hp cP cN hb0 s0 s1 hrng cS hm
  go_enter Tryd.func15, Tryd.ntmps15
  go_wp2_with (first | (go_at_call 26; refine (CP.out _ HB0.out).mono ?_; rintro e w1 ⟨rfl, hb1⟩; have c0 := cell_keep hb1 HS0.out; have c1 := cell_keep hb1 HS1.out; have z1 := Nat.le_trans z0 hb1.size; have HB1 := Kept.mk (HB0.out.trans (hb1.mono HB0.out.size)); clear hb1) | (go_at_call 27; refine (CN.out _ (HR.out.below HB1.out)).mono ?_; rintro e w2 ⟨rfl, rfl⟩) | (go_at_call 32; refine (CS.out _ (HR.out.below HB1.out)).mono ?_; rintro e w3 ⟨v, rfl, hO, hb3⟩; have HB3 := Kept.mk (HB1.out.trans (hb3.mono HB1.out.size)); have c03 := cell_keep hb3 c0; have c13 := cell_keep hb3 c1; have O3 := Kept.mk hO; clear hO hb3) | (go_at_call 33; refine (delete_row l.length (by have := HI.out; omega) 28 _ (enters_of Tryd.func28 (by kernel_rfl) rfl) (sibDel l i) _ HM.out v w1.heap.size w3 O3.out (sib_pred b off c i w.heap.size (w.heap.size + 1) w1.heap.size l w3 (HR.out.below HB3.out) (by omega) (by omega) (by omega) c03 c13 HI.out)).mono ?_; rintro e w4 ⟨v4, rfl, hO4, hb4⟩; have O4 := Kept.mk hO4; have HB4 := Kept.mk (HB3.out.trans (hb4.mono HB1.out.size)); clear hO4 hb4) | (go_at_call 34; refine (reverse_row _ v4 w1.heap.size w4 O4.out).mono ?_; rintro e w5 ⟨rfl, hO5, hb5⟩; have O5 := Kept.mk hO5; have HB5 := Kept.mk (HB4.out.trans (hb5.mono HB1.out.size)); clear hO5 hb5))
  go_ret
  exact ⟨_, rfl, own_low O5.out HB1.out.size, HB5.out⟩
set_option maxRecDepth 100000 in
set_option maxHeartbeats 4000000 in
theorem go_3 (A : Option Addr) (l : List Ptr.Nd) (c i : Nat) (w : World) (hr : RdN w A l) (hl : l.length ≤ 100000) (hf : FitP l) (hE : TEnv w) (hi : i < l.length) (hp : placeB l i = true) :
    Calls Tryd.prog 15 #[.slice A l.length c, .int .i64 i, .int .u8 3] w fun e w' => ∃ v, e = .returned v ∧ w'.ownsRow w.heap.size 3 1 v (goL l i 3).length (ic (goL l i 3)) ∧ Below w.heap.size w w' := by
  have hgo : goL l i 3 = if 0 ≤ Ptr.par l i then [(Ptr.par l i).toNat] else [] := rfl
  rw [hgo]
  clear hgo
  have cP := fun wx (hx : Below w.heap.size w wx) => place_any A l c i wx (hr.below hx) hl hf (hE.below hx)
  rw [hp] at cP
  have hrng := (place_rng hp).1
  have cN := fun wx hx => end_any A l c i wx hx hi hl
  rw [endN_same] at cN
  obtain ⟨hn1, hn2, _, _⟩ := Ptr.endN_spec l i hi
  obtain ⟨b, off, rfl, _, _, _, c3⟩ := hr.at_ hi
  simp only at c3
  have hrk := hrng i hi
  generalize Ptr.par l i = P at c3 hrk ⊢
  generalize Ptr.endN l i = N at cN hn1 hn2
  have HR := Kept.mk hr
  have CP := Kept.mk cP
  have CN := Kept.mk cN
  have i0 : (0 : Int) ≤ (i : Int) := by omega
  have i1 : (i : Int) < (l.length : Int) := by omega
  have HC3 := Kept.mk c3
  have hb0 : Below w.heap.size w ((w.alloc (.cells #[.slice (some ⟨b, off, none⟩) l.length c] 22)).alloc (.cells #[.int .i64 i] 3)) := ((Below.refl _ _).alloc (Nat.le_refl _) _).alloc (by simp) _
  have HB0 := Kept.mk hb0
  have s0 : ((w.alloc (.cells #[.slice (some ⟨b, off, none⟩) l.length c] 22)).alloc (.cells #[.int .i64 i] 3)).cell? ⟨w.heap.size, 0, none⟩ = some (.slice (some ⟨b, off, none⟩) l.length c) := cell_keep ((Below.refl _ _).alloc (Nat.le_refl _) _) (by rw [World.cell?_alloc_new]; rfl)
  have s1 : ((w.alloc (.cells #[.slice (some ⟨b, off, none⟩) l.length c] 22)).alloc (.cells #[.int .i64 i] 3)).cell? ⟨w.heap.size + 1, 0, none⟩ = some (.int .i64 i) := by
    have := World.cell?_alloc_new (w.alloc (.cells #[.slice (some ⟨b, off, none⟩) l.length c] 22)) #[.int .i64 i] 3 0
    rw [World.size_alloc] at this
    exact this
  have HS0 := Kept.mk s0; have HS1 := Kept.mk s1
  have z0 : w.heap.size + 2 ≤ ((w.alloc (.cells #[.slice (some ⟨b, off, none⟩) l.length c] 22)).alloc (.cells #[.int .i64 i] 3)).heap.size := by simp
  clear hr hf hE hp cP cN hb0 s0 s1 hrng c3
  by_cases hP : 0 ≤ P
  · rw [if_pos hP]
    obtain ⟨k, rfl⟩ : ∃ k : Nat, P = k := ⟨P.toNat, by omega⟩
    rw [Int.toNat_natCast]
    go_enter Tryd.func15, Tryd.ntmps15
    go_wp2_with (first | (go_at_call 26; refine (CP.out _ HB0.out).mono ?_; rintro e w1 ⟨rfl, hb1⟩; have c0 := cell_keep hb1 HS0.out; have c1 := cell_keep hb1 HS1.out; have d3 := cell_keep (HB0.out.trans (hb1.mono HB0.out.size)) HC3.out; have z1 := Nat.le_trans z0 hb1.size; have HB1 := Kept.mk (HB0.out.trans (hb1.mono HB0.out.size)); clear hb1) | (go_at_call 27; refine (CN.out _ (HR.out.below HB1.out)).mono ?_; rintro e w2 ⟨rfl, rfl⟩))
    go_ret
    exact ⟨_, rfl, own_low (own_one w1 k) HB1.out.size, HB1.out.alloc HB1.out.size _⟩
  · rw [if_neg hP]
    go_enter Tryd.func15, Tryd.ntmps15
    go_wp2_with (first | (go_at_call 26; refine (CP.out _ HB0.out).mono ?_; rintro e w1 ⟨rfl, hb1⟩; have c0 := cell_keep hb1 HS0.out; have c1 := cell_keep hb1 HS1.out; have d3 := cell_keep (HB0.out.trans (hb1.mono HB0.out.size)) HC3.out; have HB1 := Kept.mk (HB0.out.trans (hb1.mono HB0.out.size)); clear hb1) | (go_at_call 27; refine (CN.out _ (HR.out.below HB1.out)).mono ?_; rintro e w2 ⟨rfl, rfl⟩))
    go_ret
    exact ⟨_, rfl, World.ownsRow_nil _ _ _ _, HB1.out⟩
theorem rdi_keep {w3 w W : World} {A : Option Addr} {L : List Nat} {B : Nat} (h : RdI w3 A L) (hw : Below w3.heap.size w3 w) (hB : w3.heap.size ≤ B) (hW : ∀ a : Addr, a.block < B → W.cell? a = w.cell? a) : RdI W A L := by
  intro hne
  obtain ⟨b, rfl, hc⟩ := h hne
  exact ⟨b, rfl, fun j x hx => by
    have h3 := hc j x hx
    have hb := Kb.cell_lt h3
    exact (hW ⟨b, j, none⟩ (by show b < B; omega)).trans ((hw.cell (p := ⟨b, j, none⟩) hb).trans h3)⟩
theorem up_over {l : List Ptr.Nd} {i : Nat} {AU : Option Addr} {cU : Nat} {w3 w4 : World} {n : Nat} (h : RdI w3 AU (Ptr.upL l i)) (hb : Below (w3.alloc (.cells #[.slice AU (Ptr.upL l i).length cU] 35)).heap.size (w3.alloc (.cells #[.slice AU (Ptr.upL l i).length cU] 35)) w4) (hl : (Ptr.upL l i).length ≤ 100000) :
    Pred (w3.alloc (.cells #[.slice AU (Ptr.upL l i).length cU] 35)).heap.size n 35 #[.pointer (some ⟨w3.heap.size, 0, none⟩)] (fun x => decide (x ∈ Ptr.upL l i)) w4 :=
  up_pred _ AU cU n w3.heap.size _ w4 (fun W hW => rdi_keep h (((Below.refl _ _).alloc (Nat.le_refl _) _).trans (hb.mono (by simp))) (by simp) hW) hl (by simp) (cell_keep hb (by rw [World.cell?_alloc_new]; rfl))
set_option maxRecDepth 100000 in
set_option maxHeartbeats 4000000 in
theorem go_8 (A : Option Addr) (l : List Ptr.Nd) (c i : Nat) (w : World) (hr : RdN w A l) (hl : l.length ≤ 100000) (hf : FitP l) (hE : TEnv w) (hi : i < l.length) (hp : placeB l i = true) :
    Calls Tryd.prog 15 #[.slice A l.length c, .int .i64 i, .int .u8 8] w fun e w' => ∃ v, e = .returned v ∧ w'.ownsRow w.heap.size 3 1 v (goL l i 8).length (ic (goL l i 8)) ∧ Below w.heap.size w w' := by
  have hgo : goL l i 8 = ((stretchL l 0 i).filter fun x => !decide (x ∈ Ptr.upL l i)).reverse := rfl
  rw [hgo]
  clear hgo
  have cP := fun wx (hx : Below w.heap.size w wx) => place_any A l c i wx (hr.below hx) hl hf (hE.below hx)
  rw [hp] at cP
  have hrng := (place_rng hp).1
  have cN := fun wx hx => end_any A l c i wx hx hi hl
  rw [endN_same] at cN
  obtain ⟨hn1, hn2, _, _⟩ := Ptr.endN_spec l i hi
  have cK := fun wx w1 hw hx => up_call A c l i hi hl hrng wx w1 hw hx
  have hUL : (Ptr.upL l i).length ≤ 100000 := by have := upC_len l i (Ptr.par l i); unfold Ptr.upL; omega
  have cS := fun wx hx => stretch_any A l c 0 i wx hx (by omega) (by omega) hl
  have hm : ∀ x ∈ stretchL l 0 i, x < l.length := fun x hx => stretch_mem hx (by omega)
  generalize Ptr.endN l i = N at cN hn1 hn2
  have HR := Kept.mk hr
  have CP := Kept.mk cP
  have CN := Kept.mk cN
  have CK := Kept.mk cK
  have CS := Kept.mk cS; have HM := Kept.mk hm
  have HI := Kept.mk hi
  have hb0 : Below w.heap.size w ((w.alloc (.cells #[.slice A l.length c] 22)).alloc (.cells #[.int .i64 i] 3)) := ((Below.refl _ _).alloc (Nat.le_refl _) _).alloc (by simp) _
  have HB0 := Kept.mk hb0
  have s0 : ((w.alloc (.cells #[.slice A l.length c] 22)).alloc (.cells #[.int .i64 i] 3)).cell? ⟨w.heap.size, 0, none⟩ = some (.slice A l.length c) := cell_keep ((Below.refl _ _).alloc (Nat.le_refl _) _) (by rw [World.cell?_alloc_new]; rfl)
  have s1 : ((w.alloc (.cells #[.slice A l.length c] 22)).alloc (.cells #[.int .i64 i] 3)).cell? ⟨w.heap.size + 1, 0, none⟩ = some (.int .i64 i) := by
    have := World.cell?_alloc_new (w.alloc (.cells #[.slice A l.length c] 22)) #[.int .i64 i] 3 0
    rw [World.size_alloc] at this
    exact this
  have HS0 := Kept.mk s0; have HS1 := Kept.mk s1
  have z0 : w.heap.size + 2 ≤ ((w.alloc (.cells #[.slice A l.length c] 22)).alloc (.cells #[.int .i64 i] 3)).heap.size := by simp
  clear hr hf hE hp cP cN hb0 s0 s1 hrng cS hm cK
  go_enter Tryd.func15, Tryd.ntmps15
  go_wp2_with (first | (go_at_call 26; refine (CP.out _ HB0.out).mono ?_; rintro e w1 ⟨rfl, hb1⟩; have c0 := cell_keep hb1 HS0.out; have c1 := cell_keep hb1 HS1.out; have z1 := Nat.le_trans z0 hb1.size; have HB1 := Kept.mk (HB0.out.trans (hb1.mono HB0.out.size)); clear hb1) | (go_at_call 27; refine (CN.out _ (HR.out.below HB1.out)).mono ?_; rintro e w2 ⟨rfl, rfl⟩) | (go_at_call 31; refine (ancestors_any _ _ _ _ _).mono ?_; rintro e w2 ⟨rfl, hw2⟩; have W2 := Kept.mk hw2; clear hw2) | (go_at_call 29; refine (CK.out _ _ W2.out (HR.out.below HB1.out)).mono ?_; rintro e w3 ⟨v, rfl, hO, hb3⟩; obtain ⟨AU, cU, rfl⟩ := own_shape_i hO; have RU := Kept.mk (rdi_of_own hO); have HB3 := Kept.mk (HB1.out.trans (hb3.mono HB1.out.size)); have c03 := cell_keep hb3 c0; have c13 := cell_keep hb3 c1; have c04 := cell_keep ((Below.refl w3.heap.size w3).alloc (Nat.le_refl _) (.cells #[.slice AU (Ptr.upL l i).length cU] 35)) c03; have c14 := cell_keep ((Below.refl w3.heap.size w3).alloc (Nat.le_refl _) (.cells #[.slice AU (Ptr.upL l i).length cU] 35)) c13; clear hO hb3) | (go_at_call 32; refine (CS.out _ (HR.out.below (HB3.out.alloc HB3.out.size (.cells #[.slice AU (Ptr.upL l i).length cU] 35)))).mono ?_; rintro e w4 ⟨v4, rfl, hO4, hb4⟩; have HB4 := Kept.mk ((HB3.out.alloc HB3.out.size (.cells #[.slice AU (Ptr.upL l i).length cU] 35)).trans (hb4.mono (by have := HB3.out.size; simp; omega))); have PU := Kept.mk (up_over (i := i) (n := l.length) RU.out hb4 hUL); have O4 := Kept.mk hO4; clear hO4 hb4) | (go_at_call 33; refine (delete_row l.length (by have := HI.out; omega) 35 _ (enters_of Tryd.func35 (by kernel_rfl) rfl) (fun x => decide (x ∈ Ptr.upL l i)) _ HM.out v4 _ w4 O4.out PU.out).mono ?_; rintro e w5 ⟨v5, rfl, hO5, hb5⟩; have O5 := Kept.mk hO5; have HB5 := Kept.mk (HB4.out.trans (hb5.mono (by have := HB3.out.size; simp; omega))); clear hO5 hb5) | (go_at_call 34; refine (reverse_row _ v5 _ w5 O5.out).mono ?_; rintro e w6 ⟨rfl, hO6, hb6⟩; have O6 := Kept.mk hO6; have HB6 := Kept.mk (HB5.out.trans (hb6.mono (by have := HB3.out.size; simp; omega))); clear hO6 hb6))
  go_ret
  exact ⟨_, rfl, own_low O6.out (by have := HB3.out.size; simp; omega), HB6.out⟩
end Go.Proofs.YtkcpfjhdbbapiaaDoor.Wtr
